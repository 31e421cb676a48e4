/- A part of the proof: an evaluator of programs, its soundness, and what it says of the functions in hand. It holds without further conditions. -/
import Derived.Test.YtklelbidjcealaaGreatAb23
import Derived.Test.YtklelbidjcealaaGreatChecked
set_option linter.unusedVariables false
set_option maxRecDepth 100000
namespace Go.Proofs.YtklelbidjcealaaGreat
open Go.Ab

-- gosem.cut.init
def h2 : List (List Nat) := [[]]
def i2 : IFn := { nparams := 0, ntmps := 1, results := [], body :=
  (.reg [] [⟨(some 0), .call (.c (.fn (.func 1) [] [])) [], none, [], false⟩]) }
theorem tr2 : trF Tryz.prog h2 Tryz.f2 = some i2 := by kernel_rfl

-- ashlar/ashlarlaw8.OreMul
def h3 : List (List Nat) := [[0, 1, 2, 3], [0, 2, 3, 5], [0, 2, 3, 5, 9], [0, 2, 3, 5, 9], [2, 3, 9, 10, 11, 12], [9], [2, 3, 9, 10, 11], [2, 3, 9, 10, 11, 13, 14], [9, 11, 13, 14, 15, 16], [9, 15, 16], [9, 11, 13, 14, 15, 16]]
def i3 : IFn := { nparams := 4, ntmps := 72, results := [.tmp 8], body :=
  (.seq (.reg [0, 1, 2, 3] [⟨(some 5), .box 2 (.s 1), none, [], false⟩,
     ⟨(some 8), .mv (.c (.bool false)), none, [], true⟩])
   (.seq (.reg [0, 2, 3, 5] [⟨(some 17), .call (.c (.fn (.func 14) [] [])) [], none, [], false⟩,
     ⟨(some 9), .mv (.s 17), none, [], true⟩])
   (.seq (.reg [0, 2, 3, 5, 9] [⟨(some 18), .mv (.s 2), none, [], false⟩,
     ⟨(some 19), .call (.c (.fn (.func 15) [] [])) [(.s 18)], none, [], false⟩,
     ⟨(some 20), .mv (.s 3), none, [], false⟩,
     ⟨(some 21), .call (.c (.fn (.func 15) [] [])) [(.s 20)], none, [], false⟩,
     ⟨(some 2), .mv (.s 19), none, [], true⟩,
     ⟨(some 3), .mv (.s 21), none, [], true⟩])
   (.seq (.reg [0, 2, 3, 5, 9] [⟨(some 23), .mv (.s 0), none, [], false⟩,
     ⟨(some 24), .load true 2 (.s 5), none, [], false⟩,
     ⟨(some 25), .call (.c (.fn (.func 16) [] [])) [(.s 23), (.s 24)], none, [], false⟩,
     ⟨(some 22), .mv (.s 25), none, [], false⟩,
     ⟨(some 26), .extr (.s 22) 0, none, [], false⟩,
     ⟨(some 27), .extr (.s 22) 1, none, [], false⟩,
     ⟨(some 28), .extr (.s 22) 2, none, [], false⟩,
     ⟨(some 11), .alloc 3 (.agg [(.int .i64 0), (.bool false), (.sl .nil [])]), none, [], false⟩,
     ⟨(some 10), .mv (.s 26), none, [], true⟩,
     ⟨none, .store 3 (.s 11) (.s 27), none, [], false⟩,
     ⟨(some 12), .mv (.s 28), none, [], true⟩])
   (.seq (.seq (.reg [2, 3, 9, 10, 11, 12] [⟨(some 29), .mv (.s 12), none, [], false⟩,
     ⟨(some 30), .un .not (.s 29), none, [], false⟩])
   (.cond (.s 30)
    (.seq (.reg [9] [⟨(some 31), .mv (.s 9), none, [], false⟩,
      ⟨(some 8), .mv (.s 31), none, [], true⟩])
    .ret)
    .skip))
   (.seq (.reg [2, 3, 9, 10, 11] [⟨(some 32), .mv (.s 2), none, [], false⟩,
     ⟨(some 33), .call (.c (.fn (.func 17) [] [])) [(.s 32)], none, [], false⟩,
     ⟨(some 34), .mv (.s 3), none, [], false⟩,
     ⟨(some 35), .call (.c (.fn (.func 17) [] [])) [(.s 34)], none, [], false⟩,
     ⟨(some 13), .mv (.s 33), none, [], true⟩,
     ⟨(some 14), .mv (.s 35), none, [], true⟩])
   (.seq (.reg [2, 3, 9, 10, 11, 13, 14] [⟨(some 37), .mv (.s 10), none, [], false⟩,
     ⟨(some 38), .mv (.s 2), none, [], false⟩,
     ⟨(some 39), .mv (.s 3), none, [], false⟩,
     ⟨(some 40), .call (.c (.fn (.func 18) [] [])) [(.s 37), (.s 38), (.s 39)], none, [], false⟩,
     ⟨(some 36), .mv (.s 40), none, [], false⟩,
     ⟨(some 41), .extr (.s 36) 0, none, [], false⟩,
     ⟨(some 42), .extr (.s 36) 1, none, [], false⟩,
     ⟨(some 15), .mv (.s 41), none, [], true⟩,
     ⟨(some 16), .mv (.s 42), none, [], true⟩])
   (.seq (.seq (.reg [9, 11, 13, 14, 15, 16] [⟨(some 43), .mv (.s 13), none, [], false⟩,
     ⟨(some 44), .mv (.s 14), none, [], false⟩,
     ⟨(some 45), .fldA 1 true 2 (.s 11), none, [], false⟩,
     ⟨(some 46), .load true 2 (.s 45), none, [], false⟩,
     ⟨(some 47), .call (.c (.fn (.func 19) [] [])) [(.s 43), (.s 44), (.s 46)], none, [], false⟩,
     ⟨(some 48), .bin .gtr .num (.s 47) (.c (.int .i64 1048576)), none, [], false⟩])
   (.cond (.s 48)
    (.seq (.reg [9, 15, 16] [⟨(some 49), .mv (.s 9), none, [], false⟩,
      ⟨(some 50), .mv (.s 49), none, [], false⟩,
      ⟨(some 51), .mv (.s 16), (some (50, true)), [], false⟩,
      ⟨(some 52), .bin .eql .num (.s 51) (.c (.int .i64 4)), (some (50, true)), [], false⟩,
      ⟨(some 53), .pick (.s 50) (.s 52) (.c (.bool false)), none, [], false⟩,
      ⟨(some 54), .mv (.s 53), none, [], false⟩,
      ⟨(some 55), .mv (.s 15), (some (54, true)), [], false⟩,
      ⟨(some 56), .len false (.s 55), (some (54, true)), [], false⟩,
      ⟨(some 57), .bin .eql .num (.s 56) (.c (.int .i64 0)), (some (54, true)), [], false⟩,
      ⟨(some 58), .pick (.s 54) (.s 57) (.c (.bool false)), none, [], false⟩,
      ⟨(some 8), .mv (.s 58), none, [], true⟩])
    .ret)
    .skip))
   (.seq (.reg [9, 11, 13, 14, 15, 16] [⟨(some 59), .mv (.s 9), none, [], false⟩,
     ⟨(some 60), .mv (.s 59), none, [], false⟩,
     ⟨(some 61), .mv (.s 16), (some (60, true)), [], false⟩,
     ⟨(some 62), .bin .eql .num (.s 61) (.c (.int .i64 0)), (some (60, true)), [], false⟩,
     ⟨(some 63), .pick (.s 60) (.s 62) (.c (.bool false)), none, [], false⟩,
     ⟨(some 64), .mv (.s 63), none, [], false⟩,
     ⟨(some 65), .mv (.s 15), (some (64, true)), [], false⟩,
     ⟨(some 66), .load true 3 (.s 11), (some (64, true)), [], false⟩,
     ⟨(some 67), .mv (.s 13), (some (64, true)), [], false⟩,
     ⟨(some 68), .mv (.s 14), (some (64, true)), [], false⟩,
     ⟨(some 69), .call (.c (.fn (.func 21) [] [])) [(.s 66), (.s 67), (.s 68)], (some (64, true)), [], false⟩,
     ⟨(some 70), .call (.c (.fn (.func 20) [] [])) [(.s 65), (.s 69)], (some (64, true)), [], false⟩,
     ⟨(some 71), .pick (.s 64) (.s 70) (.c (.bool false)), none, [], false⟩,
     ⟨(some 8), .mv (.s 71), none, [], true⟩])
   .ret))))))))) }
theorem tr3 : trF Tryz.prog h3 Tryz.f3 = some i3 := by kernel_rfl

-- ashlar/ashlarlaw8.OreBig
def h4 : List (List Nat) := [[0, 1, 2, 3, 4], [0, 1, 2, 3, 4], [0, 1, 2, 3, 4, 11], [11], [0, 1, 2, 3, 4, 11], [1, 2, 3, 4, 11, 12, 13, 14], [11], [1, 2, 3, 4, 11, 12, 13], [1, 2, 3, 4, 11, 12, 13, 15], [1, 2, 3, 4, 11, 12, 13, 15, 16], [1, 2, 4, 11, 12, 13, 15, 16], [1, 2, 4, 11, 12, 13, 15], [1, 2, 4, 11, 12, 13, 15, 17], [1, 2, 4, 11, 12, 13, 15, 16, 17], [1, 2, 11, 12, 13, 15, 16, 17], [1, 2, 11, 12, 13, 15, 17], [1, 2, 11, 13, 15, 17, 18, 19], [11, 18, 19], [1, 2, 11, 18, 19]]
def i4 : IFn := { nparams := 5, ntmps := 130, results := [.tmp 10], body :=
  (.seq (.reg [0, 1, 2, 3, 4] [⟨(some 10), .mv (.c (.bool false)), none, [], true⟩])
   (.seq (.reg [0, 1, 2, 3, 4] [⟨(some 20), .call (.c (.fn (.func 14) [] [])) [], none, [], false⟩,
     ⟨(some 11), .mv (.s 20), none, [], true⟩])
   (.seq (.seq (.reg [0, 1, 2, 3, 4, 11] [⟨(some 21), .mv (.s 1), none, [], false⟩,
     ⟨(some 22), .bin .lss .num (.s 21) (.c (.int .i64 0)), none, [], false⟩,
     ⟨(some 23), .mv (.s 22), none, [], false⟩,
     ⟨(some 24), .mv (.s 2), (some (23, false)), [], false⟩,
     ⟨(some 25), .bin .lss .num (.s 24) (.c (.int .i64 0)), (some (23, false)), [], false⟩,
     ⟨(some 26), .pick (.s 23) (.c (.bool true)) (.s 25), none, [], false⟩,
     ⟨(some 27), .mv (.s 26), none, [], false⟩,
     ⟨(some 28), .mv (.s 3), (some (27, false)), [], false⟩,
     ⟨(some 29), .bin .lss .num (.s 28) (.c (.int .i64 0)), (some (27, false)), [], false⟩,
     ⟨(some 30), .pick (.s 27) (.c (.bool true)) (.s 29), none, [], false⟩,
     ⟨(some 31), .mv (.s 30), none, [], false⟩,
     ⟨(some 32), .mv (.s 4), (some (31, false)), [], false⟩,
     ⟨(some 33), .bin .lss .num (.s 32) (.c (.int .i64 0)), (some (31, false)), [], false⟩,
     ⟨(some 34), .pick (.s 31) (.c (.bool true)) (.s 33), none, [], false⟩,
     ⟨(some 35), .mv (.s 34), none, [], false⟩,
     ⟨(some 36), .mv (.s 1), (some (35, false)), [], false⟩,
     ⟨(some 37), .bin .gtr .num (.s 36) (.c (.int .i64 150)), (some (35, false)), [], false⟩,
     ⟨(some 38), .pick (.s 35) (.c (.bool true)) (.s 37), none, [], false⟩,
     ⟨(some 39), .mv (.s 38), none, [], false⟩,
     ⟨(some 40), .mv (.s 2), (some (39, false)), [], false⟩,
     ⟨(some 41), .bin .gtr .num (.s 40) (.c (.int .i64 150)), (some (39, false)), [], false⟩,
     ⟨(some 42), .pick (.s 39) (.c (.bool true)) (.s 41), none, [], false⟩,
     ⟨(some 43), .mv (.s 42), none, [], false⟩,
     ⟨(some 44), .mv (.s 3), (some (43, false)), [], false⟩,
     ⟨(some 45), .bin .gtr .num (.s 44) (.c (.int .i64 40)), (some (43, false)), [], false⟩,
     ⟨(some 46), .pick (.s 43) (.c (.bool true)) (.s 45), none, [], false⟩,
     ⟨(some 47), .mv (.s 46), none, [], false⟩,
     ⟨(some 48), .mv (.s 4), (some (47, false)), [], false⟩,
     ⟨(some 49), .bin .gtr .num (.s 48) (.c (.int .i64 40)), (some (47, false)), [], false⟩,
     ⟨(some 50), .pick (.s 47) (.c (.bool true)) (.s 49), none, [], false⟩])
   (.cond (.s 50)
    (.seq (.reg [11] [⟨(some 51), .mv (.s 11), none, [], false⟩,
      ⟨(some 10), .mv (.s 51), none, [], true⟩])
    .ret)
    .skip))
   (.seq (.reg [0, 1, 2, 3, 4, 11] [⟨(some 53), .mv (.s 0), none, [], false⟩,
     ⟨(some 54), .bsl 1 (.int .u32 0) 1 [(0, (.c (.int .u32 2)))], none, [], false⟩,
     ⟨(some 55), .build [(.bool false), (.sl .nil [])] [(1, 1, (.s 54))], none, [], false⟩,
     ⟨(some 56), .call (.c (.fn (.func 16) [] [])) [(.s 53), (.s 55)], none, [], false⟩,
     ⟨(some 52), .mv (.s 56), none, [], false⟩,
     ⟨(some 57), .extr (.s 52) 0, none, [], false⟩,
     ⟨(some 58), .extr (.s 52) 1, none, [], false⟩,
     ⟨(some 59), .extr (.s 52) 2, none, [], false⟩,
     ⟨(some 13), .alloc 3 (.agg [(.int .i64 0), (.bool false), (.sl .nil [])]), none, [], false⟩,
     ⟨(some 12), .mv (.s 57), none, [], true⟩,
     ⟨none, .store 3 (.s 13) (.s 58), none, [], false⟩,
     ⟨(some 14), .mv (.s 59), none, [], true⟩])
   (.seq (.seq (.reg [1, 2, 3, 4, 11, 12, 13, 14] [⟨(some 60), .mv (.s 14), none, [], false⟩,
     ⟨(some 61), .un .not (.s 60), none, [], false⟩])
   (.cond (.s 61)
    (.seq (.reg [11] [⟨(some 62), .mv (.s 11), none, [], false⟩,
      ⟨(some 10), .mv (.s 62), none, [], true⟩])
    .ret)
    .skip))
   (.seq (.reg [1, 2, 3, 4, 11, 12, 13] [⟨(some 63), .mv (.s 1), none, [], false⟩,
     ⟨(some 64), .bin .add .num (.s 63) (.c (.int .i64 1)), none, [], false⟩,
     ⟨(some 65), .mksl 1 24 (.sl .nil []) (.s 64) (.s 64), none, [], false⟩,
     ⟨(some 15), .mv (.s 65), none, [], true⟩])
   (.seq (.reg [1, 2, 3, 4, 11, 12, 13, 15] [⟨(some 66), .mv (.s 3), none, [], false⟩,
     ⟨(some 67), .bin .add .num (.s 66) (.c (.int .i64 1)), none, [], false⟩,
     ⟨(some 68), .mksl 2 32 (.agg [(.bool false), (.sl .nil [])]) (.s 67) (.s 67), none, [], false⟩,
     ⟨(some 16), .mv (.s 68), none, [], true⟩])
   (.seq (.reg [1, 2, 3, 4, 11, 12, 13, 15, 16] [⟨(some 69), .mv (.s 16), none, [], false⟩,
     ⟨(some 70), .mv (.s 3), none, [], false⟩,
     ⟨(some 71), .call (.c (.fn (.func 22) [] [])) [(.c (.int .i64 1))], none, [], false⟩,
     ⟨(some 72), .idxA 2 (.s 69) (.s 70), none, [], false⟩,
     ⟨none, .store 2 (.s 72) (.s 71), none, [], false⟩])
   (.seq (.reg [1, 2, 4, 11, 12, 13, 15, 16] [⟨(some 73), .mv (.s 15), none, [], false⟩,
     ⟨(some 74), .mv (.s 1), none, [], false⟩,
     ⟨(some 75), .mv (.s 16), none, [], false⟩,
     ⟨(some 76), .idxA 1 (.s 73) (.s 74), none, [], false⟩,
     ⟨none, .store 1 (.s 76) (.s 75), none, [], false⟩])
   (.seq (.reg [1, 2, 4, 11, 12, 13, 15] [⟨(some 77), .mv (.s 2), none, [], false⟩,
     ⟨(some 78), .bin .add .num (.s 77) (.c (.int .i64 1)), none, [], false⟩,
     ⟨(some 79), .mksl 1 24 (.sl .nil []) (.s 78) (.s 78), none, [], false⟩,
     ⟨(some 17), .mv (.s 79), none, [], true⟩])
   (.seq (.reg [1, 2, 4, 11, 12, 13, 15, 17] [⟨(some 80), .mv (.s 4), none, [], false⟩,
     ⟨(some 81), .bin .add .num (.s 80) (.c (.int .i64 1)), none, [], false⟩,
     ⟨(some 82), .mksl 2 32 (.agg [(.bool false), (.sl .nil [])]) (.s 81) (.s 81), none, [], false⟩,
     ⟨(some 16), .mv (.s 82), none, [], true⟩])
   (.seq (.reg [1, 2, 4, 11, 12, 13, 15, 16, 17] [⟨(some 83), .mv (.s 16), none, [], false⟩,
     ⟨(some 84), .mv (.s 4), none, [], false⟩,
     ⟨(some 85), .call (.c (.fn (.func 22) [] [])) [(.c (.int .i64 1))], none, [], false⟩,
     ⟨(some 86), .idxA 2 (.s 83) (.s 84), none, [], false⟩,
     ⟨none, .store 2 (.s 86) (.s 85), none, [], false⟩])
   (.seq (.reg [1, 2, 11, 12, 13, 15, 16, 17] [⟨(some 87), .mv (.s 17), none, [], false⟩,
     ⟨(some 88), .mv (.s 2), none, [], false⟩,
     ⟨(some 89), .mv (.s 16), none, [], false⟩,
     ⟨(some 90), .idxA 1 (.s 87) (.s 88), none, [], false⟩,
     ⟨none, .store 1 (.s 90) (.s 89), none, [], false⟩])
   (.seq (.reg [1, 2, 11, 12, 13, 15, 17] [⟨(some 92), .mv (.s 12), none, [], false⟩,
     ⟨(some 93), .mv (.s 15), none, [], false⟩,
     ⟨(some 94), .call (.c (.fn (.func 23) [] [])) [(.s 93)], none, [], false⟩,
     ⟨(some 95), .mv (.s 17), none, [], false⟩,
     ⟨(some 96), .call (.c (.fn (.func 23) [] [])) [(.s 95)], none, [], false⟩,
     ⟨(some 97), .call (.c (.fn (.func 18) [] [])) [(.s 92), (.s 94), (.s 96)], none, [], false⟩,
     ⟨(some 91), .mv (.s 97), none, [], false⟩,
     ⟨(some 98), .extr (.s 91) 0, none, [], false⟩,
     ⟨(some 99), .extr (.s 91) 1, none, [], false⟩,
     ⟨(some 18), .mv (.s 98), none, [], true⟩,
     ⟨(some 19), .mv (.s 99), none, [], true⟩])
   (.seq (.seq (.reg [1, 2, 11, 13, 15, 17, 18, 19] [⟨(some 100), .mv (.s 15), none, [], false⟩,
     ⟨(some 101), .mv (.s 17), none, [], false⟩,
     ⟨(some 102), .fldA 1 true 2 (.s 13), none, [], false⟩,
     ⟨(some 103), .load true 2 (.s 102), none, [], false⟩,
     ⟨(some 104), .call (.c (.fn (.func 19) [] [])) [(.s 100), (.s 101), (.s 103)], none, [], false⟩,
     ⟨(some 105), .bin .gtr .num (.s 104) (.c (.int .i64 1048576)), none, [], false⟩])
   (.cond (.s 105)
    (.seq (.reg [11, 18, 19] [⟨(some 106), .mv (.s 11), none, [], false⟩,
      ⟨(some 107), .mv (.s 106), none, [], false⟩,
      ⟨(some 108), .mv (.s 19), (some (107, true)), [], false⟩,
      ⟨(some 109), .bin .eql .num (.s 108) (.c (.int .i64 4)), (some (107, true)), [], false⟩,
      ⟨(some 110), .pick (.s 107) (.s 109) (.c (.bool false)), none, [], false⟩,
      ⟨(some 111), .mv (.s 110), none, [], false⟩,
      ⟨(some 112), .mv (.s 18), (some (111, true)), [], false⟩,
      ⟨(some 113), .len false (.s 112), (some (111, true)), [], false⟩,
      ⟨(some 114), .bin .eql .num (.s 113) (.c (.int .i64 0)), (some (111, true)), [], false⟩,
      ⟨(some 115), .pick (.s 111) (.s 114) (.c (.bool false)), none, [], false⟩,
      ⟨(some 10), .mv (.s 115), none, [], true⟩])
    .ret)
    .skip))
   (.seq (.reg [1, 2, 11, 18, 19] [⟨(some 116), .mv (.s 11), none, [], false⟩,
     ⟨(some 117), .mv (.s 116), none, [], false⟩,
     ⟨(some 118), .mv (.s 19), (some (117, true)), [], false⟩,
     ⟨(some 119), .bin .eql .num (.s 118) (.c (.int .i64 0)), (some (117, true)), [], false⟩,
     ⟨(some 120), .pick (.s 117) (.s 119) (.c (.bool false)), none, [], false⟩,
     ⟨(some 121), .mv (.s 120), none, [], false⟩,
     ⟨(some 122), .mv (.s 18), (some (121, true)), [], false⟩,
     ⟨(some 123), .len false (.s 122), (some (121, true)), [], false⟩,
     ⟨(some 124), .mv (.s 1), (some (121, true)), [], false⟩,
     ⟨(some 125), .mv (.s 2), (some (121, true)), [], false⟩,
     ⟨(some 126), .bin .add .num (.s 124) (.s 125), (some (121, true)), [], false⟩,
     ⟨(some 127), .bin .add .num (.s 126) (.c (.int .i64 1)), (some (121, true)), [], false⟩,
     ⟨(some 128), .bin .eql .num (.s 123) (.s 127), (some (121, true)), [], false⟩,
     ⟨(some 129), .pick (.s 121) (.s 128) (.c (.bool false)), none, [], false⟩,
     ⟨(some 10), .mv (.s 129), none, [], true⟩])
   .ret)))))))))))))))) }
theorem tr4 : trF Tryz.prog h4 Tryz.f4 = some i4 := by kernel_rfl

-- ashlar/ashlarlaw8.OrePrim
def h5 : List (List Nat) := [[0, 1], [0, 1], [0, 1, 5], [5, 6], [5, 6, 7], [5, 6, 7, 8], [5, 6, 8, 9], [5, 8, 9], [5, 6, 8, 9]]
def i5 : IFn := { nparams := 2, ntmps := 51, results := [.tmp 4], body :=
  (.seq (.reg [0, 1] [⟨(some 4), .mv (.c (.bool false)), none, [], true⟩])
   (.seq (.reg [0, 1] [⟨(some 10), .call (.c (.fn (.func 14) [] [])) [], none, [], false⟩,
     ⟨(some 5), .mv (.s 10), none, [], true⟩])
   (.seq (.reg [0, 1, 5] [⟨(some 11), .mv (.s 1), none, [], false⟩,
     ⟨(some 12), .call (.c (.fn (.func 26) [] [])) [(.s 11), (.c (.int .i64 3)), (.c (.int .i64 1))], none, [], false⟩,
     ⟨(some 13), .call (.c (.fn (.func 25) [] [])) [(.s 12)], none, [], false⟩,
     ⟨(some 14), .mv (.s 0), none, [], false⟩,
     ⟨(some 15), .call (.c (.fn (.func 27) [] [])) [(.s 14), (.c (.int .i64 3)), (.c (.int .i64 3)), (.c (.int .i64 1))], none, [], false⟩,
     ⟨(some 16), .call (.c (.fn (.func 17) [] [])) [(.s 15)], none, [], false⟩,
     ⟨(some 17), .call (.c (.fn (.func 24) [] [])) [(.s 13), (.s 16)], none, [], false⟩,
     ⟨(some 6), .mv (.s 17), none, [], true⟩])
   (.seq (.reg [5, 6] [⟨(some 18), .mv (.s 6), none, [], false⟩,
     ⟨(some 19), .call (.c (.fn (.func 23) [] [])) [(.s 18)], none, [], false⟩,
     ⟨(some 7), .mv (.s 19), none, [], true⟩])
   (.seq (.reg [5, 6, 7] [⟨(some 20), .mv (.s 7), none, [], false⟩,
     ⟨(some 21), .call (.c (.fn (.func 28) [] [])) [(.s 20)], none, [], false⟩,
     ⟨(some 8), .mv (.s 21), none, [], true⟩])
   (.seq (.reg [5, 6, 7, 8] [⟨(some 22), .mv (.s 7), none, [], false⟩,
     ⟨(some 23), .call (.c (.fn (.func 29) [] [])) [(.s 22)], none, [], false⟩,
     ⟨(some 9), .mv (.s 23), none, [], true⟩])
   (.seq (.seq (.reg [5, 6, 8, 9] [⟨(some 24), .mv (.s 6), none, [], false⟩,
     ⟨(some 25), .len false (.s 24), none, [], false⟩,
     ⟨(some 26), .bin .eql .num (.s 25) (.c (.int .i64 0)), none, [], false⟩])
   (.cond (.s 26)
    (.seq (.reg [5, 8, 9] [⟨(some 27), .mv (.s 5), none, [], false⟩,
      ⟨(some 28), .mv (.s 27), none, [], false⟩,
      ⟨(some 29), .mv (.s 8), (some (28, true)), [], false⟩,
      ⟨(some 30), .len false (.s 29), (some (28, true)), [], false⟩,
      ⟨(some 31), .bin .eql .num (.s 30) (.c (.int .i64 0)), (some (28, true)), [], false⟩,
      ⟨(some 32), .pick (.s 28) (.s 31) (.c (.bool false)), none, [], false⟩,
      ⟨(some 33), .mv (.s 32), none, [], false⟩,
      ⟨(some 34), .mv (.s 9), (some (33, true)), [], false⟩,
      ⟨(some 35), .len false (.s 34), (some (33, true)), [], false⟩,
      ⟨(some 36), .bin .eql .num (.s 35) (.c (.int .i64 0)), (some (33, true)), [], false⟩,
      ⟨(some 37), .pick (.s 33) (.s 36) (.c (.bool false)), none, [], false⟩,
      ⟨(some 4), .mv (.s 37), none, [], true⟩])
    .ret)
    .skip))
   (.seq (.reg [5, 6, 8, 9] [⟨(some 38), .mv (.s 5), none, [], false⟩,
     ⟨(some 39), .mv (.s 38), none, [], false⟩,
     ⟨(some 40), .mv (.s 8), (some (39, true)), [], false⟩,
     ⟨(some 41), .mv (.s 6), (some (39, true)), [], false⟩,
     ⟨(some 42), .call (.c (.fn (.func 31) [] [])) [(.s 41)], (some (39, true)), [], false⟩,
     ⟨(some 43), .call (.c (.fn (.func 30) [] [])) [(.s 40), (.s 42)], (some (39, true)), [], false⟩,
     ⟨(some 44), .pick (.s 39) (.s 43) (.c (.bool false)), none, [], false⟩,
     ⟨(some 45), .mv (.s 44), none, [], false⟩,
     ⟨(some 46), .mv (.s 9), (some (45, true)), [], false⟩,
     ⟨(some 47), .mv (.s 6), (some (45, true)), [], false⟩,
     ⟨(some 48), .call (.c (.fn (.func 32) [] [])) [(.s 47)], (some (45, true)), [], false⟩,
     ⟨(some 49), .call (.c (.fn (.func 20) [] [])) [(.s 46), (.s 48)], (some (45, true)), [], false⟩,
     ⟨(some 50), .pick (.s 45) (.s 49) (.c (.bool false)), none, [], false⟩,
     ⟨(some 4), .mv (.s 50), none, [], true⟩])
   .ret)))))))) }
theorem tr5 : trF Tryz.prog h5 Tryz.f5 = some i5 := by kernel_rfl

-- ashlar/ashlarlaw8.OreApply
def h6 : List (List Nat) := [[0, 1, 2, 3], [0, 2, 3, 5], [0, 2, 3, 5, 9], [0, 2, 3, 5, 9], [2, 3, 9, 10, 11, 12], [9], [2, 3, 9, 10, 11], [2, 3, 9, 10, 11, 13, 14], [9, 11, 13, 14, 15, 16], [9, 15, 16], [9, 11, 13, 14, 15, 16]]
def i6 : IFn := { nparams := 4, ntmps := 72, results := [.tmp 8], body :=
  (.seq (.reg [0, 1, 2, 3] [⟨(some 5), .box 2 (.s 1), none, [], false⟩,
     ⟨(some 8), .mv (.c (.bool false)), none, [], true⟩])
   (.seq (.reg [0, 2, 3, 5] [⟨(some 17), .call (.c (.fn (.func 14) [] [])) [], none, [], false⟩,
     ⟨(some 9), .mv (.s 17), none, [], true⟩])
   (.seq (.reg [0, 2, 3, 5, 9] [⟨(some 18), .mv (.s 2), none, [], false⟩,
     ⟨(some 19), .call (.c (.fn (.func 15) [] [])) [(.s 18)], none, [], false⟩,
     ⟨(some 20), .mv (.s 3), none, [], false⟩,
     ⟨(some 21), .call (.c (.fn (.func 26) [] [])) [(.s 20), (.c (.int .i64 7)), (.c (.int .i64 2))], none, [], false⟩,
     ⟨(some 2), .mv (.s 19), none, [], true⟩,
     ⟨(some 3), .mv (.s 21), none, [], true⟩])
   (.seq (.reg [0, 2, 3, 5, 9] [⟨(some 23), .mv (.s 0), none, [], false⟩,
     ⟨(some 24), .load true 2 (.s 5), none, [], false⟩,
     ⟨(some 25), .call (.c (.fn (.func 16) [] [])) [(.s 23), (.s 24)], none, [], false⟩,
     ⟨(some 22), .mv (.s 25), none, [], false⟩,
     ⟨(some 26), .extr (.s 22) 0, none, [], false⟩,
     ⟨(some 27), .extr (.s 22) 1, none, [], false⟩,
     ⟨(some 28), .extr (.s 22) 2, none, [], false⟩,
     ⟨(some 11), .alloc 3 (.agg [(.int .i64 0), (.bool false), (.sl .nil [])]), none, [], false⟩,
     ⟨(some 10), .mv (.s 26), none, [], true⟩,
     ⟨none, .store 3 (.s 11) (.s 27), none, [], false⟩,
     ⟨(some 12), .mv (.s 28), none, [], true⟩])
   (.seq (.seq (.reg [2, 3, 9, 10, 11, 12] [⟨(some 29), .mv (.s 12), none, [], false⟩,
     ⟨(some 30), .un .not (.s 29), none, [], false⟩])
   (.cond (.s 30)
    (.seq (.reg [9] [⟨(some 31), .mv (.s 9), none, [], false⟩,
      ⟨(some 8), .mv (.s 31), none, [], true⟩])
    .ret)
    .skip))
   (.seq (.reg [2, 3, 9, 10, 11] [⟨(some 32), .mv (.s 2), none, [], false⟩,
     ⟨(some 33), .call (.c (.fn (.func 17) [] [])) [(.s 32)], none, [], false⟩,
     ⟨(some 34), .mv (.s 3), none, [], false⟩,
     ⟨(some 35), .call (.c (.fn (.func 25) [] [])) [(.s 34)], none, [], false⟩,
     ⟨(some 13), .mv (.s 33), none, [], true⟩,
     ⟨(some 14), .mv (.s 35), none, [], true⟩])
   (.seq (.reg [2, 3, 9, 10, 11, 13, 14] [⟨(some 37), .mv (.s 10), none, [], false⟩,
     ⟨(some 38), .mv (.s 2), none, [], false⟩,
     ⟨(some 39), .mv (.s 3), none, [], false⟩,
     ⟨(some 40), .call (.c (.fn (.func 33) [] [])) [(.s 37), (.s 38), (.s 39)], none, [], false⟩,
     ⟨(some 36), .mv (.s 40), none, [], false⟩,
     ⟨(some 41), .extr (.s 36) 0, none, [], false⟩,
     ⟨(some 42), .extr (.s 36) 1, none, [], false⟩,
     ⟨(some 15), .mv (.s 41), none, [], true⟩,
     ⟨(some 16), .mv (.s 42), none, [], true⟩])
   (.seq (.seq (.reg [9, 11, 13, 14, 15, 16] [⟨(some 43), .mv (.s 13), none, [], false⟩,
     ⟨(some 44), .mv (.s 14), none, [], false⟩,
     ⟨(some 45), .fldA 1 true 2 (.s 11), none, [], false⟩,
     ⟨(some 46), .load true 2 (.s 45), none, [], false⟩,
     ⟨(some 47), .call (.c (.fn (.func 34) [] [])) [(.s 43), (.s 44), (.s 46)], none, [], false⟩,
     ⟨(some 48), .bin .gtr .num (.s 47) (.c (.int .i64 1048576)), none, [], false⟩])
   (.cond (.s 48)
    (.seq (.reg [9, 15, 16] [⟨(some 49), .mv (.s 9), none, [], false⟩,
      ⟨(some 50), .mv (.s 49), none, [], false⟩,
      ⟨(some 51), .mv (.s 16), (some (50, true)), [], false⟩,
      ⟨(some 52), .bin .eql .num (.s 51) (.c (.int .i64 4)), (some (50, true)), [], false⟩,
      ⟨(some 53), .pick (.s 50) (.s 52) (.c (.bool false)), none, [], false⟩,
      ⟨(some 54), .mv (.s 53), none, [], false⟩,
      ⟨(some 55), .mv (.s 15), (some (54, true)), [], false⟩,
      ⟨(some 56), .len false (.s 55), (some (54, true)), [], false⟩,
      ⟨(some 57), .bin .eql .num (.s 56) (.c (.int .i64 0)), (some (54, true)), [], false⟩,
      ⟨(some 58), .pick (.s 54) (.s 57) (.c (.bool false)), none, [], false⟩,
      ⟨(some 8), .mv (.s 58), none, [], true⟩])
    .ret)
    .skip))
   (.seq (.reg [9, 11, 13, 14, 15, 16] [⟨(some 59), .mv (.s 9), none, [], false⟩,
     ⟨(some 60), .mv (.s 59), none, [], false⟩,
     ⟨(some 61), .mv (.s 16), (some (60, true)), [], false⟩,
     ⟨(some 62), .bin .eql .num (.s 61) (.c (.int .i64 0)), (some (60, true)), [], false⟩,
     ⟨(some 63), .pick (.s 60) (.s 62) (.c (.bool false)), none, [], false⟩,
     ⟨(some 64), .mv (.s 63), none, [], false⟩,
     ⟨(some 65), .mv (.s 15), (some (64, true)), [], false⟩,
     ⟨(some 66), .load true 3 (.s 11), (some (64, true)), [], false⟩,
     ⟨(some 67), .mv (.s 13), (some (64, true)), [], false⟩,
     ⟨(some 68), .mv (.s 14), (some (64, true)), [], false⟩,
     ⟨(some 69), .call (.c (.fn (.func 35) [] [])) [(.s 66), (.s 67), (.s 68)], (some (64, true)), [], false⟩,
     ⟨(some 70), .call (.c (.fn (.func 30) [] [])) [(.s 65), (.s 69)], (some (64, true)), [], false⟩,
     ⟨(some 71), .pick (.s 64) (.s 70) (.c (.bool false)), none, [], false⟩,
     ⟨(some 8), .mv (.s 71), none, [], true⟩])
   .ret))))))))) }
theorem tr6 : trF Tryz.prog h6 Tryz.f6 = some i6 := by kernel_rfl

-- ashlar/ashlarlaw8.OreActs
def h7 : List (List Nat) := [[0, 1, 2, 3, 4], [0, 2, 3, 4, 6], [0, 2, 3, 4, 6, 11], [0, 2, 3, 4, 6, 11], [2, 3, 4, 11, 12, 14], [11], [2, 3, 4, 11, 12], [2, 3, 4, 11, 12, 15, 16], [2, 4, 11, 12, 15, 16, 17, 18], [4, 11, 12, 15, 16, 18, 19, 20], [11, 16, 18, 19, 20, 21, 22], [11], [11, 19, 21]]
def i7 : IFn := { nparams := 5, ntmps := 90, results := [.tmp 10], body :=
  (.seq (.reg [0, 1, 2, 3, 4] [⟨(some 6), .box 2 (.s 1), none, [], false⟩,
     ⟨(some 10), .mv (.c (.bool false)), none, [], true⟩])
   (.seq (.reg [0, 2, 3, 4, 6] [⟨(some 23), .call (.c (.fn (.func 14) [] [])) [], none, [], false⟩,
     ⟨(some 11), .mv (.s 23), none, [], true⟩])
   (.seq (.reg [0, 2, 3, 4, 6, 11] [⟨(some 24), .mv (.s 2), none, [], false⟩,
     ⟨(some 25), .call (.c (.fn (.func 27) [] [])) [(.s 24), (.c (.int .i64 3)), (.c (.int .i64 3)), (.c (.int .i64 1))], none, [], false⟩,
     ⟨(some 26), .mv (.s 3), none, [], false⟩,
     ⟨(some 27), .call (.c (.fn (.func 27) [] [])) [(.s 26), (.c (.int .i64 3)), (.c (.int .i64 3)), (.c (.int .i64 1))], none, [], false⟩,
     ⟨(some 28), .mv (.s 4), none, [], false⟩,
     ⟨(some 29), .call (.c (.fn (.func 26) [] [])) [(.s 28), (.c (.int .i64 5)), (.c (.int .i64 1))], none, [], false⟩,
     ⟨(some 2), .mv (.s 25), none, [], true⟩,
     ⟨(some 3), .mv (.s 27), none, [], true⟩,
     ⟨(some 4), .mv (.s 29), none, [], true⟩])
   (.seq (.reg [0, 2, 3, 4, 6, 11] [⟨(some 31), .mv (.s 0), none, [], false⟩,
     ⟨(some 32), .load true 2 (.s 6), none, [], false⟩,
     ⟨(some 33), .call (.c (.fn (.func 16) [] [])) [(.s 31), (.s 32)], none, [], false⟩,
     ⟨(some 30), .mv (.s 33), none, [], false⟩,
     ⟨(some 34), .extr (.s 30) 0, none, [], false⟩,
     ⟨(some 35), .extr (.s 30) 1, none, [], false⟩,
     ⟨(some 36), .extr (.s 30) 2, none, [], false⟩,
     ⟨(some 13), .alloc 3 (.agg [(.int .i64 0), (.bool false), (.sl .nil [])]), none, [], false⟩,
     ⟨(some 12), .mv (.s 34), none, [], true⟩,
     ⟨none, .store 3 (.s 13) (.s 35), none, [], false⟩,
     ⟨(some 14), .mv (.s 36), none, [], true⟩])
   (.seq (.seq (.reg [2, 3, 4, 11, 12, 14] [⟨(some 37), .mv (.s 14), none, [], false⟩,
     ⟨(some 38), .un .not (.s 37), none, [], false⟩])
   (.cond (.s 38)
    (.seq (.reg [11] [⟨(some 39), .mv (.s 11), none, [], false⟩,
      ⟨(some 10), .mv (.s 39), none, [], true⟩])
    .ret)
    .skip))
   (.seq (.reg [2, 3, 4, 11, 12] [⟨(some 41), .mv (.s 12), none, [], false⟩,
     ⟨(some 42), .mv (.s 2), none, [], false⟩,
     ⟨(some 43), .mv (.s 3), none, [], false⟩,
     ⟨(some 44), .call (.c (.fn (.func 18) [] [])) [(.s 41), (.s 42), (.s 43)], none, [], false⟩,
     ⟨(some 40), .mv (.s 44), none, [], false⟩,
     ⟨(some 45), .extr (.s 40) 0, none, [], false⟩,
     ⟨(some 46), .extr (.s 40) 1, none, [], false⟩,
     ⟨(some 15), .mv (.s 45), none, [], true⟩,
     ⟨(some 16), .mv (.s 46), none, [], true⟩])
   (.seq (.reg [2, 3, 4, 11, 12, 15, 16] [⟨(some 48), .mv (.s 12), none, [], false⟩,
     ⟨(some 49), .mv (.s 3), none, [], false⟩,
     ⟨(some 50), .mv (.s 4), none, [], false⟩,
     ⟨(some 51), .call (.c (.fn (.func 33) [] [])) [(.s 48), (.s 49), (.s 50)], none, [], false⟩,
     ⟨(some 47), .mv (.s 51), none, [], false⟩,
     ⟨(some 52), .extr (.s 47) 0, none, [], false⟩,
     ⟨(some 53), .extr (.s 47) 1, none, [], false⟩,
     ⟨(some 17), .mv (.s 52), none, [], true⟩,
     ⟨(some 18), .mv (.s 53), none, [], true⟩])
   (.seq (.reg [2, 4, 11, 12, 15, 16, 17, 18] [⟨(some 55), .mv (.s 12), none, [], false⟩,
     ⟨(some 56), .mv (.s 2), none, [], false⟩,
     ⟨(some 57), .mv (.s 17), none, [], false⟩,
     ⟨(some 58), .call (.c (.fn (.func 33) [] [])) [(.s 55), (.s 56), (.s 57)], none, [], false⟩,
     ⟨(some 54), .mv (.s 58), none, [], false⟩,
     ⟨(some 59), .extr (.s 54) 0, none, [], false⟩,
     ⟨(some 60), .extr (.s 54) 1, none, [], false⟩,
     ⟨(some 19), .mv (.s 59), none, [], true⟩,
     ⟨(some 20), .mv (.s 60), none, [], true⟩])
   (.seq (.reg [4, 11, 12, 15, 16, 18, 19, 20] [⟨(some 62), .mv (.s 12), none, [], false⟩,
     ⟨(some 63), .mv (.s 15), none, [], false⟩,
     ⟨(some 64), .mv (.s 4), none, [], false⟩,
     ⟨(some 65), .call (.c (.fn (.func 33) [] [])) [(.s 62), (.s 63), (.s 64)], none, [], false⟩,
     ⟨(some 61), .mv (.s 65), none, [], false⟩,
     ⟨(some 66), .extr (.s 61) 0, none, [], false⟩,
     ⟨(some 67), .extr (.s 61) 1, none, [], false⟩,
     ⟨(some 21), .mv (.s 66), none, [], true⟩,
     ⟨(some 22), .mv (.s 67), none, [], true⟩])
   (.seq (.seq (.reg [11, 16, 18, 19, 20, 21, 22] [⟨(some 68), .mv (.s 16), none, [], false⟩,
     ⟨(some 69), .bin .neq .num (.s 68) (.c (.int .i64 0)), none, [], false⟩,
     ⟨(some 70), .mv (.s 69), none, [], false⟩,
     ⟨(some 71), .mv (.s 18), (some (70, false)), [], false⟩,
     ⟨(some 72), .bin .neq .num (.s 71) (.c (.int .i64 0)), (some (70, false)), [], false⟩,
     ⟨(some 73), .pick (.s 70) (.c (.bool true)) (.s 72), none, [], false⟩,
     ⟨(some 74), .mv (.s 73), none, [], false⟩,
     ⟨(some 75), .mv (.s 20), (some (74, false)), [], false⟩,
     ⟨(some 76), .bin .neq .num (.s 75) (.c (.int .i64 0)), (some (74, false)), [], false⟩,
     ⟨(some 77), .pick (.s 74) (.c (.bool true)) (.s 76), none, [], false⟩,
     ⟨(some 78), .mv (.s 77), none, [], false⟩,
     ⟨(some 79), .mv (.s 22), (some (78, false)), [], false⟩,
     ⟨(some 80), .bin .neq .num (.s 79) (.c (.int .i64 0)), (some (78, false)), [], false⟩,
     ⟨(some 81), .pick (.s 78) (.c (.bool true)) (.s 80), none, [], false⟩])
   (.cond (.s 81)
    (.seq (.reg [11] [⟨(some 82), .mv (.s 11), none, [], false⟩,
      ⟨(some 10), .mv (.s 82), none, [], true⟩])
    .ret)
    .skip))
   (.seq (.reg [11, 19, 21] [⟨(some 83), .mv (.s 11), none, [], false⟩,
     ⟨(some 84), .mv (.s 83), none, [], false⟩,
     ⟨(some 85), .mv (.s 19), (some (84, true)), [], false⟩,
     ⟨(some 86), .mv (.s 21), (some (84, true)), [], false⟩,
     ⟨(some 87), .call (.c (.fn (.func 25) [] [])) [(.s 86)], (some (84, true)), [], false⟩,
     ⟨(some 88), .call (.c (.fn (.func 30) [] [])) [(.s 85), (.s 87)], (some (84, true)), [], false⟩,
     ⟨(some 89), .pick (.s 84) (.s 88) (.c (.bool false)), none, [], false⟩,
     ⟨(some 10), .mv (.s 89), none, [], true⟩])
   .ret))))))))))) }
theorem tr7 : trF Tryz.prog h7 Tryz.f7 = some i7 := by kernel_rfl

-- ashlar/ashlarlaw8.OreRing
def h8 : List (List Nat) := [[0, 1, 2, 3, 4], [0, 2, 3, 4, 6], [0, 2, 3, 4, 6, 11], [0, 2, 3, 4, 6, 11], [2, 3, 4, 11, 12, 14], [11], [2, 3, 4, 11, 12], [2, 3, 4, 11, 12, 15, 16], [2, 3, 4, 11, 12, 15, 16, 17, 18], [2, 3, 4, 11, 12, 15, 16, 17, 18, 19, 20], [2, 3, 4, 11, 12, 15, 16, 17, 18, 19, 20, 21, 22], [2, 3, 4, 11, 12, 15, 16, 17, 18, 19, 20, 21, 22, 23, 24], [2, 3, 4, 11, 12, 15, 16, 17, 18, 19, 20, 21, 22, 23, 24, 25, 26], [2, 3, 11, 15, 16, 17, 18, 19, 20, 21, 22, 23, 24, 25, 26, 27, 28], [11], [2, 3, 11, 15, 17, 19, 21, 23, 25, 27], [], [11, 15, 17, 19, 21, 23, 25, 27]]
def i8 : IFn := { nparams := 5, ntmps := 164, results := [.tmp 10], body :=
  (.seq (.reg [0, 1, 2, 3, 4] [⟨(some 6), .box 2 (.s 1), none, [], false⟩,
     ⟨(some 10), .mv (.c (.bool false)), none, [], true⟩])
   (.seq (.reg [0, 2, 3, 4, 6] [⟨(some 29), .call (.c (.fn (.func 14) [] [])) [], none, [], false⟩,
     ⟨(some 11), .mv (.s 29), none, [], true⟩])
   (.seq (.reg [0, 2, 3, 4, 6, 11] [⟨(some 30), .mv (.s 2), none, [], false⟩,
     ⟨(some 31), .call (.c (.fn (.func 27) [] [])) [(.s 30), (.c (.int .i64 2)), (.c (.int .i64 3)), (.c (.int .i64 1))], none, [], false⟩,
     ⟨(some 32), .mv (.s 3), none, [], false⟩,
     ⟨(some 33), .call (.c (.fn (.func 27) [] [])) [(.s 32), (.c (.int .i64 2)), (.c (.int .i64 3)), (.c (.int .i64 1))], none, [], false⟩,
     ⟨(some 34), .mv (.s 4), none, [], false⟩,
     ⟨(some 35), .call (.c (.fn (.func 27) [] [])) [(.s 34), (.c (.int .i64 2)), (.c (.int .i64 3)), (.c (.int .i64 1))], none, [], false⟩,
     ⟨(some 2), .mv (.s 31), none, [], true⟩,
     ⟨(some 3), .mv (.s 33), none, [], true⟩,
     ⟨(some 4), .mv (.s 35), none, [], true⟩])
   (.seq (.reg [0, 2, 3, 4, 6, 11] [⟨(some 37), .mv (.s 0), none, [], false⟩,
     ⟨(some 38), .load true 2 (.s 6), none, [], false⟩,
     ⟨(some 39), .call (.c (.fn (.func 16) [] [])) [(.s 37), (.s 38)], none, [], false⟩,
     ⟨(some 36), .mv (.s 39), none, [], false⟩,
     ⟨(some 40), .extr (.s 36) 0, none, [], false⟩,
     ⟨(some 41), .extr (.s 36) 1, none, [], false⟩,
     ⟨(some 42), .extr (.s 36) 2, none, [], false⟩,
     ⟨(some 13), .alloc 3 (.agg [(.int .i64 0), (.bool false), (.sl .nil [])]), none, [], false⟩,
     ⟨(some 12), .mv (.s 40), none, [], true⟩,
     ⟨none, .store 3 (.s 13) (.s 41), none, [], false⟩,
     ⟨(some 14), .mv (.s 42), none, [], true⟩])
   (.seq (.seq (.reg [2, 3, 4, 11, 12, 14] [⟨(some 43), .mv (.s 14), none, [], false⟩,
     ⟨(some 44), .un .not (.s 43), none, [], false⟩])
   (.cond (.s 44)
    (.seq (.reg [11] [⟨(some 45), .mv (.s 11), none, [], false⟩,
      ⟨(some 10), .mv (.s 45), none, [], true⟩])
    .ret)
    .skip))
   (.seq (.reg [2, 3, 4, 11, 12] [⟨(some 47), .mv (.s 12), none, [], false⟩,
     ⟨(some 48), .mv (.s 2), none, [], false⟩,
     ⟨(some 49), .mv (.s 3), none, [], false⟩,
     ⟨(some 50), .call (.c (.fn (.func 18) [] [])) [(.s 47), (.s 48), (.s 49)], none, [], false⟩,
     ⟨(some 46), .mv (.s 50), none, [], false⟩,
     ⟨(some 51), .extr (.s 46) 0, none, [], false⟩,
     ⟨(some 52), .extr (.s 46) 1, none, [], false⟩,
     ⟨(some 15), .mv (.s 51), none, [], true⟩,
     ⟨(some 16), .mv (.s 52), none, [], true⟩])
   (.seq (.reg [2, 3, 4, 11, 12, 15, 16] [⟨(some 54), .mv (.s 12), none, [], false⟩,
     ⟨(some 55), .mv (.s 3), none, [], false⟩,
     ⟨(some 56), .mv (.s 4), none, [], false⟩,
     ⟨(some 57), .call (.c (.fn (.func 18) [] [])) [(.s 54), (.s 55), (.s 56)], none, [], false⟩,
     ⟨(some 53), .mv (.s 57), none, [], false⟩,
     ⟨(some 58), .extr (.s 53) 0, none, [], false⟩,
     ⟨(some 59), .extr (.s 53) 1, none, [], false⟩,
     ⟨(some 17), .mv (.s 58), none, [], true⟩,
     ⟨(some 18), .mv (.s 59), none, [], true⟩])
   (.seq (.reg [2, 3, 4, 11, 12, 15, 16, 17, 18] [⟨(some 61), .mv (.s 12), none, [], false⟩,
     ⟨(some 62), .mv (.s 15), none, [], false⟩,
     ⟨(some 63), .mv (.s 4), none, [], false⟩,
     ⟨(some 64), .call (.c (.fn (.func 18) [] [])) [(.s 61), (.s 62), (.s 63)], none, [], false⟩,
     ⟨(some 60), .mv (.s 64), none, [], false⟩,
     ⟨(some 65), .extr (.s 60) 0, none, [], false⟩,
     ⟨(some 66), .extr (.s 60) 1, none, [], false⟩,
     ⟨(some 19), .mv (.s 65), none, [], true⟩,
     ⟨(some 20), .mv (.s 66), none, [], true⟩])
   (.seq (.reg [2, 3, 4, 11, 12, 15, 16, 17, 18, 19, 20] [⟨(some 68), .mv (.s 12), none, [], false⟩,
     ⟨(some 69), .mv (.s 2), none, [], false⟩,
     ⟨(some 70), .mv (.s 17), none, [], false⟩,
     ⟨(some 71), .call (.c (.fn (.func 18) [] [])) [(.s 68), (.s 69), (.s 70)], none, [], false⟩,
     ⟨(some 67), .mv (.s 71), none, [], false⟩,
     ⟨(some 72), .extr (.s 67) 0, none, [], false⟩,
     ⟨(some 73), .extr (.s 67) 1, none, [], false⟩,
     ⟨(some 21), .mv (.s 72), none, [], true⟩,
     ⟨(some 22), .mv (.s 73), none, [], true⟩])
   (.seq (.reg [2, 3, 4, 11, 12, 15, 16, 17, 18, 19, 20, 21, 22] [⟨(some 75), .mv (.s 12), none, [], false⟩,
     ⟨(some 76), .mv (.s 2), none, [], false⟩,
     ⟨(some 77), .mv (.s 4), none, [], false⟩,
     ⟨(some 78), .call (.c (.fn (.func 18) [] [])) [(.s 75), (.s 76), (.s 77)], none, [], false⟩,
     ⟨(some 74), .mv (.s 78), none, [], false⟩,
     ⟨(some 79), .extr (.s 74) 0, none, [], false⟩,
     ⟨(some 80), .extr (.s 74) 1, none, [], false⟩,
     ⟨(some 23), .mv (.s 79), none, [], true⟩,
     ⟨(some 24), .mv (.s 80), none, [], true⟩])
   (.seq (.reg [2, 3, 4, 11, 12, 15, 16, 17, 18, 19, 20, 21, 22, 23, 24] [⟨(some 82), .mv (.s 12), none, [], false⟩,
     ⟨(some 83), .mv (.s 2), none, [], false⟩,
     ⟨(some 84), .mv (.s 3), none, [], false⟩,
     ⟨(some 85), .mv (.s 4), none, [], false⟩,
     ⟨(some 86), .call (.c (.fn (.func 36) [] [])) [(.s 84), (.s 85)], none, [], false⟩,
     ⟨(some 87), .call (.c (.fn (.func 18) [] [])) [(.s 82), (.s 83), (.s 86)], none, [], false⟩,
     ⟨(some 81), .mv (.s 87), none, [], false⟩,
     ⟨(some 88), .extr (.s 81) 0, none, [], false⟩,
     ⟨(some 89), .extr (.s 81) 1, none, [], false⟩,
     ⟨(some 25), .mv (.s 88), none, [], true⟩,
     ⟨(some 26), .mv (.s 89), none, [], true⟩])
   (.seq (.reg [2, 3, 4, 11, 12, 15, 16, 17, 18, 19, 20, 21, 22, 23, 24, 25, 26] [⟨(some 91), .mv (.s 12), none, [], false⟩,
     ⟨(some 92), .mv (.s 2), none, [], false⟩,
     ⟨(some 93), .mv (.s 3), none, [], false⟩,
     ⟨(some 94), .call (.c (.fn (.func 36) [] [])) [(.s 92), (.s 93)], none, [], false⟩,
     ⟨(some 95), .mv (.s 4), none, [], false⟩,
     ⟨(some 96), .call (.c (.fn (.func 18) [] [])) [(.s 91), (.s 94), (.s 95)], none, [], false⟩,
     ⟨(some 90), .mv (.s 96), none, [], false⟩,
     ⟨(some 97), .extr (.s 90) 0, none, [], false⟩,
     ⟨(some 98), .extr (.s 90) 1, none, [], false⟩,
     ⟨(some 27), .mv (.s 97), none, [], true⟩,
     ⟨(some 28), .mv (.s 98), none, [], true⟩])
   (.seq (.seq (.reg [2, 3, 11, 15, 16, 17, 18, 19, 20, 21, 22, 23, 24, 25, 26, 27, 28] [⟨(some 99), .mv (.s 16), none, [], false⟩,
     ⟨(some 100), .bin .neq .num (.s 99) (.c (.int .i64 0)), none, [], false⟩,
     ⟨(some 101), .mv (.s 100), none, [], false⟩,
     ⟨(some 102), .mv (.s 18), (some (101, false)), [], false⟩,
     ⟨(some 103), .bin .neq .num (.s 102) (.c (.int .i64 0)), (some (101, false)), [], false⟩,
     ⟨(some 104), .pick (.s 101) (.c (.bool true)) (.s 103), none, [], false⟩,
     ⟨(some 105), .mv (.s 104), none, [], false⟩,
     ⟨(some 106), .mv (.s 20), (some (105, false)), [], false⟩,
     ⟨(some 107), .bin .neq .num (.s 106) (.c (.int .i64 0)), (some (105, false)), [], false⟩,
     ⟨(some 108), .pick (.s 105) (.c (.bool true)) (.s 107), none, [], false⟩,
     ⟨(some 109), .mv (.s 108), none, [], false⟩,
     ⟨(some 110), .mv (.s 22), (some (109, false)), [], false⟩,
     ⟨(some 111), .bin .neq .num (.s 110) (.c (.int .i64 0)), (some (109, false)), [], false⟩,
     ⟨(some 112), .pick (.s 109) (.c (.bool true)) (.s 111), none, [], false⟩,
     ⟨(some 113), .mv (.s 112), none, [], false⟩,
     ⟨(some 114), .mv (.s 24), (some (113, false)), [], false⟩,
     ⟨(some 115), .bin .neq .num (.s 114) (.c (.int .i64 0)), (some (113, false)), [], false⟩,
     ⟨(some 116), .pick (.s 113) (.c (.bool true)) (.s 115), none, [], false⟩,
     ⟨(some 117), .mv (.s 116), none, [], false⟩,
     ⟨(some 118), .mv (.s 26), (some (117, false)), [], false⟩,
     ⟨(some 119), .bin .neq .num (.s 118) (.c (.int .i64 0)), (some (117, false)), [], false⟩,
     ⟨(some 120), .pick (.s 117) (.c (.bool true)) (.s 119), none, [], false⟩,
     ⟨(some 121), .mv (.s 120), none, [], false⟩,
     ⟨(some 122), .mv (.s 28), (some (121, false)), [], false⟩,
     ⟨(some 123), .bin .neq .num (.s 122) (.c (.int .i64 0)), (some (121, false)), [], false⟩,
     ⟨(some 124), .pick (.s 121) (.c (.bool true)) (.s 123), none, [], false⟩])
   (.cond (.s 124)
    (.seq (.reg [11] [⟨(some 125), .mv (.s 11), none, [], false⟩,
      ⟨(some 10), .mv (.s 125), none, [], true⟩])
    .ret)
    .skip))
   (.seq (.seq (.reg [2, 3, 11, 15, 17, 19, 21, 23, 25, 27] [⟨(some 126), .mv (.s 2), none, [], false⟩,
     ⟨(some 127), .call (.c (.fn (.func 37) [] [])) [(.s 126)], none, [], false⟩,
     ⟨(some 128), .bin .geq .num (.s 127) (.c (.int .i64 0)), none, [], false⟩,
     ⟨(some 129), .mv (.s 128), none, [], false⟩,
     ⟨(some 130), .mv (.s 3), (some (129, true)), [], false⟩,
     ⟨(some 131), .call (.c (.fn (.func 37) [] [])) [(.s 130)], (some (129, true)), [], false⟩,
     ⟨(some 132), .bin .geq .num (.s 131) (.c (.int .i64 0)), (some (129, true)), [], false⟩,
     ⟨(some 133), .pick (.s 129) (.s 132) (.c (.bool false)), none, [], false⟩,
     ⟨(some 134), .mv (.s 133), none, [], false⟩,
     ⟨(some 135), .mv (.s 15), (some (134, true)), [], false⟩,
     ⟨(some 136), .call (.c (.fn (.func 37) [] [])) [(.s 135)], (some (134, true)), [], false⟩,
     ⟨(some 137), .mv (.s 2), (some (134, true)), [], false⟩,
     ⟨(some 138), .call (.c (.fn (.func 37) [] [])) [(.s 137)], (some (134, true)), [], false⟩,
     ⟨(some 139), .mv (.s 3), (some (134, true)), [], false⟩,
     ⟨(some 140), .call (.c (.fn (.func 37) [] [])) [(.s 139)], (some (134, true)), [], false⟩,
     ⟨(some 141), .bin .add .num (.s 138) (.s 140), (some (134, true)), [], false⟩,
     ⟨(some 142), .bin .neq .num (.s 136) (.s 141), (some (134, true)), [], false⟩,
     ⟨(some 143), .pick (.s 134) (.s 142) (.c (.bool false)), none, [], false⟩])
   (.cond (.s 143)
    (.seq (.reg [] [⟨(some 10), .mv (.c (.bool false)), none, [], true⟩])
    .ret)
    .skip))
   (.seq (.reg [11, 15, 17, 19, 21, 23, 25, 27] [⟨(some 144), .mv (.s 11), none, [], false⟩,
     ⟨(some 145), .mv (.s 144), none, [], false⟩,
     ⟨(some 146), .mv (.s 19), (some (145, true)), [], false⟩,
     ⟨(some 147), .mv (.s 21), (some (145, true)), [], false⟩,
     ⟨(some 148), .call (.c (.fn (.func 38) [] [])) [(.s 146), (.s 147)], (some (145, true)), [], false⟩,
     ⟨(some 149), .pick (.s 145) (.s 148) (.c (.bool false)), none, [], false⟩,
     ⟨(some 150), .mv (.s 149), none, [], false⟩,
     ⟨(some 151), .mv (.s 25), (some (150, true)), [], false⟩,
     ⟨(some 152), .mv (.s 15), (some (150, true)), [], false⟩,
     ⟨(some 153), .mv (.s 23), (some (150, true)), [], false⟩,
     ⟨(some 154), .call (.c (.fn (.func 36) [] [])) [(.s 152), (.s 153)], (some (150, true)), [], false⟩,
     ⟨(some 155), .call (.c (.fn (.func 38) [] [])) [(.s 151), (.s 154)], (some (150, true)), [], false⟩,
     ⟨(some 156), .pick (.s 150) (.s 155) (.c (.bool false)), none, [], false⟩,
     ⟨(some 157), .mv (.s 156), none, [], false⟩,
     ⟨(some 158), .mv (.s 27), (some (157, true)), [], false⟩,
     ⟨(some 159), .mv (.s 23), (some (157, true)), [], false⟩,
     ⟨(some 160), .mv (.s 17), (some (157, true)), [], false⟩,
     ⟨(some 161), .call (.c (.fn (.func 36) [] [])) [(.s 159), (.s 160)], (some (157, true)), [], false⟩,
     ⟨(some 162), .call (.c (.fn (.func 38) [] [])) [(.s 158), (.s 161)], (some (157, true)), [], false⟩,
     ⟨(some 163), .pick (.s 157) (.s 162) (.c (.bool false)), none, [], false⟩,
     ⟨(some 10), .mv (.s 163), none, [], true⟩])
   .ret))))))))))))))) }
theorem tr8 : trF Tryz.prog h8 Tryz.f8 = some i8 := by kernel_rfl

-- ashlar/ashlarlaw8.OreEach
def h9 : List (List Nat) := [[0, 1], [0, 3], [0, 3, 5], [0, 3, 5], [0, 3, 5, 6], [0, 3, 5, 6, 7], [0, 3, 5, 6, 7, 8], [0, 3, 5, 6, 7, 8, 9], [0, 5, 6, 7, 8, 10], [5, 6, 7, 8, 10, 11]]
def i9 : IFn := { nparams := 2, ntmps := 48, results := [.tmp 4], body :=
  (.seq (.reg [0, 1] [⟨(some 3), .box 1 (.s 1), none, [], false⟩,
     ⟨(some 4), .mv (.c (.bool false)), none, [], true⟩])
   (.seq (.reg [0, 3] [⟨(some 12), .call (.c (.fn (.func 14) [] [])) [], none, [], false⟩,
     ⟨(some 5), .mv (.s 12), none, [], true⟩])
   (.seq (.draw [0, 3, 5] [⟨(some 13), .mv (.s 0), none, [], false⟩,
     ⟨(some 14), .call (.c (.fn (.func 15) [] [])) [(.s 13)], none, [0], false⟩,
     ⟨(some 15), .load false 1 (.s 3), none, [], false⟩,
     ⟨(some 16), .call (.c (.fn (.func 26) [] [])) [(.s 15), (.c (.int .i64 3)), (.c (.int .i64 1))], none, [2, 1], false⟩,
     ⟨(some 0), .mv (.s 14), none, [1, 3, 0], true⟩,
     ⟨none, .store 1 (.s 3) (.s 16), none, [3, 4, 0, 1, 2], false⟩])
   (.seq (.reg [0, 3, 5] [⟨(some 17), .mv (.s 0), none, [], false⟩,
     ⟨(some 18), .call (.c (.fn (.func 17) [] [])) [(.s 17)], none, [], false⟩,
     ⟨(some 6), .alloc 1 (.sl .nil []), none, [], false⟩,
     ⟨none, .store 1 (.s 6) (.s 18), none, [], false⟩])
   (.seq (.reg [0, 3, 5, 6] [⟨(some 7), .alloc 1 (.int .i64 0), none, [], false⟩,
     ⟨none, .store 1 (.s 7) (.c (.int .i64 0)), none, [], false⟩])
   (.seq (.reg [0, 3, 5, 6, 7] [⟨(some 8), .alloc 1 (.bool false), none, [], false⟩,
     ⟨none, .store 1 (.s 8) (.c (.bool true)), none, [], false⟩])
   (.seq (.reg [0, 3, 5, 6, 7, 8] [⟨(some 19), .mv (.s 0), none, [], false⟩,
     ⟨(some 20), .mkfn (.func 40) [] [(.s 8), (.s 7), (.s 6), (.s 3)], none, [], false⟩,
     ⟨(some 21), .call (.c (.fn (.func 39) [] [])) [(.s 19), (.s 20)], none, [], false⟩,
     ⟨(some 9), .mv (.s 21), none, [], true⟩])
   (.seq (.draw [0, 3, 5, 6, 7, 8, 9] [⟨(some 22), .mv (.s 9), none, [], false⟩,
     ⟨(some 23), .load false 1 (.s 3), none, [], false⟩,
     ⟨(some 24), .call (.c (.fn (.func 25) [] [])) [(.s 23)], none, [1], false⟩,
     ⟨(some 25), .load false 1 (.s 6), none, [], false⟩,
     ⟨(some 26), .call (.c (.fn (.func 24) [] [])) [(.s 24), (.s 25)], none, [2, 3], false⟩,
     ⟨(some 27), .call (.c (.fn (.func 20) [] [])) [(.s 22), (.s 26)], none, [0, 4], false⟩,
     ⟨(some 10), .mv (.s 27), none, [5, 0, 1, 2, 3, 4], true⟩])
   (.seq (.draw [0, 5, 6, 7, 8, 10] [⟨(some 28), .mv (.s 0), none, [], false⟩,
     ⟨(some 29), .call (.c (.fn (.func 39) [] [])) [(.s 28), (.c .nilFn)], none, [0], false⟩,
     ⟨(some 30), .load false 1 (.s 6), none, [], false⟩,
     ⟨(some 31), .call (.c (.fn (.func 20) [] [])) [(.s 29), (.s 30)], none, [1, 2], false⟩,
     ⟨(some 11), .mv (.s 31), none, [3, 0, 1, 2], true⟩])
   (.seq (.reg [5, 6, 7, 8, 10, 11] [⟨(some 32), .mv (.s 5), none, [], false⟩,
     ⟨(some 33), .mv (.s 32), none, [], false⟩,
     ⟨(some 34), .load false 1 (.s 8), (some (33, true)), [], false⟩,
     ⟨(some 35), .pick (.s 33) (.s 34) (.c (.bool false)), none, [], false⟩,
     ⟨(some 36), .mv (.s 35), none, [], false⟩,
     ⟨(some 37), .load false 1 (.s 7), (some (36, true)), [], false⟩,
     ⟨(some 38), .load false 1 (.s 6), (some (36, true)), [], false⟩,
     ⟨(some 39), .len false (.s 38), (some (36, true)), [], false⟩,
     ⟨(some 40), .bin .eql .num (.s 37) (.s 39), (some (36, true)), [], false⟩,
     ⟨(some 41), .pick (.s 36) (.s 40) (.c (.bool false)), none, [], false⟩,
     ⟨(some 42), .mv (.s 41), none, [], false⟩,
     ⟨(some 43), .mv (.s 10), (some (42, true)), [], false⟩,
     ⟨(some 44), .pick (.s 42) (.s 43) (.c (.bool false)), none, [], false⟩,
     ⟨(some 45), .mv (.s 44), none, [], false⟩,
     ⟨(some 46), .mv (.s 11), (some (45, true)), [], false⟩,
     ⟨(some 47), .pick (.s 45) (.s 46) (.c (.bool false)), none, [], false⟩,
     ⟨(some 4), .mv (.s 47), none, [], true⟩])
   .ret)))))))))) }
theorem tr9 : trF Tryz.prog h9 Tryz.f9 = some i9 := by kernel_rfl

-- ashlar/ashlarlaw8.OreNew
def h10 : List (List Nat) := [[0, 1, 2], [0, 2, 4], [0, 2, 4, 7], [0, 2, 7, 8], [0, 2, 7, 8], [0, 2, 7, 8, 9, 10], [7, 9, 10], [0, 2, 7, 8, 9, 10], [7, 9, 10], [0, 2, 7, 8, 9, 10], [], [0, 2, 7, 8, 9], [0, 2, 7, 8, 9, 11], [0, 2, 7, 8, 9, 11], [0, 2, 7, 9, 11], [0, 2, 7, 9, 11, 12], [0, 7, 9, 11, 12, 13]]
def i10 : IFn := { nparams := 3, ntmps := 109, results := [.tmp 6], body :=
  (.seq (.reg [0, 1, 2] [⟨(some 4), .box 2 (.s 1), none, [], false⟩,
     ⟨(some 6), .mv (.c (.bool false)), none, [], true⟩])
   (.seq (.reg [0, 2, 4] [⟨(some 14), .call (.c (.fn (.func 14) [] [])) [], none, [], false⟩,
     ⟨(some 7), .mv (.s 14), none, [], true⟩])
   (.seq (.reg [0, 2, 4, 7] [⟨(some 15), .load true 2 (.s 4), none, [], false⟩,
     ⟨(some 16), .bsl 2 (.agg [(.bool false), (.sl .nil [])]) 1 [(0, (.s 15))], none, [], false⟩,
     ⟨(some 17), .call (.c (.fn (.func 26) [] [])) [(.s 16), (.c (.int .i64 1)), (.c (.int .i64 1))], none, [], false⟩,
     ⟨(some 18), .idxA 2 (.s 17) (.c (.int .i64 0)), none, [], false⟩,
     ⟨(some 19), .load true 2 (.s 18), none, [], false⟩,
     ⟨(some 20), .call (.c (.fn (.func 43) [] [])) [(.s 19)], none, [], false⟩,
     ⟨(some 8), .alloc 2 (.agg [(.bool false), (.sl .nil [])]), none, [], false⟩,
     ⟨none, .store 2 (.s 8) (.s 20), none, [], false⟩])
   (.seq (.reg [0, 2, 7, 8] [⟨(some 21), .mv (.s 2), none, [], false⟩,
     ⟨(some 22), .call (.c (.fn (.func 26) [] [])) [(.s 21), (.c (.int .i64 7)), (.c (.int .i64 3))], none, [], false⟩,
     ⟨(some 2), .mv (.s 22), none, [], true⟩])
   (.seq (.reg [0, 2, 7, 8] [⟨(some 24), .mv (.s 0), none, [], false⟩,
     ⟨(some 25), .load true 2 (.s 8), none, [], false⟩,
     ⟨(some 26), .call (.c (.fn (.func 45) [] [])) [(.s 25)], none, [], false⟩,
     ⟨(some 27), .call (.c (.fn (.func 44) [] [])) [(.s 24), (.s 26)], none, [], false⟩,
     ⟨(some 23), .mv (.s 27), none, [], false⟩,
     ⟨(some 28), .extr (.s 23) 0, none, [], false⟩,
     ⟨(some 29), .extr (.s 23) 1, none, [], false⟩,
     ⟨(some 9), .mv (.s 28), none, [], true⟩,
     ⟨(some 10), .mv (.s 29), none, [], true⟩])
   (.seq (.seq (.reg [0, 2, 7, 8, 9, 10] [⟨(some 30), .mv (.s 0), none, [], false⟩,
     ⟨(some 31), .bin .lss .num (.s 30) (.c (.int .i64 1)), none, [], false⟩,
     ⟨(some 32), .mv (.s 31), none, [], false⟩,
     ⟨(some 33), .mv (.s 0), (some (32, false)), [], false⟩,
     ⟨(some 34), .bin .gtr .num (.s 33) (.c (.int .i64 3)), (some (32, false)), [], false⟩,
     ⟨(some 35), .pick (.s 32) (.c (.bool true)) (.s 34), none, [], false⟩])
   (.cond (.s 35)
    (.seq (.reg [7, 9, 10] [⟨(some 36), .mv (.s 7), none, [], false⟩,
      ⟨(some 37), .mv (.s 36), none, [], false⟩,
      ⟨(some 38), .mv (.s 10), (some (37, true)), [], false⟩,
      ⟨(some 39), .bin .eql .num (.s 38) (.c (.int .i64 10)), (some (37, true)), [], false⟩,
      ⟨(some 40), .pick (.s 37) (.s 39) (.c (.bool false)), none, [], false⟩,
      ⟨(some 41), .mv (.s 40), none, [], false⟩,
      ⟨(some 42), .mv (.s 9), (some (41, true)), [], false⟩,
      ⟨(some 43), .bin .eql .ptr (.s 42) (.c .nilPtr), (some (41, true)), [], false⟩,
      ⟨(some 44), .pick (.s 41) (.s 43) (.c (.bool false)), none, [], false⟩,
      ⟨(some 6), .mv (.s 44), none, [], true⟩])
    .ret)
    .skip))
   (.seq (.seq (.reg [0, 2, 7, 8, 9, 10] [⟨(some 45), .mv (.s 0), none, [], false⟩,
     ⟨(some 46), .bin .eql .num (.s 45) (.c (.int .i64 3)), none, [], false⟩,
     ⟨(some 47), .mv (.s 46), none, [], false⟩,
     ⟨(some 48), .load true 2 (.s 8), (some (47, true)), [], false⟩,
     ⟨(some 49), .call (.c (.fn (.func 46) [] [])) [(.s 48)], (some (47, true)), [], false⟩,
     ⟨(some 50), .bin .eql .num (.s 49) (.c (.int .i64 0)), (some (47, true)), [], false⟩,
     ⟨(some 51), .pick (.s 47) (.s 50) (.c (.bool false)), none, [], false⟩])
   (.cond (.s 51)
    (.seq (.reg [7, 9, 10] [⟨(some 52), .mv (.s 7), none, [], false⟩,
      ⟨(some 53), .mv (.s 52), none, [], false⟩,
      ⟨(some 54), .mv (.s 10), (some (53, true)), [], false⟩,
      ⟨(some 55), .bin .eql .num (.s 54) (.c (.int .i64 2)), (some (53, true)), [], false⟩,
      ⟨(some 56), .pick (.s 53) (.s 55) (.c (.bool false)), none, [], false⟩,
      ⟨(some 57), .mv (.s 56), none, [], false⟩,
      ⟨(some 58), .mv (.s 9), (some (57, true)), [], false⟩,
      ⟨(some 59), .bin .eql .ptr (.s 58) (.c .nilPtr), (some (57, true)), [], false⟩,
      ⟨(some 60), .pick (.s 57) (.s 59) (.c (.bool false)), none, [], false⟩,
      ⟨(some 6), .mv (.s 60), none, [], true⟩])
    .ret)
    .skip))
   (.seq (.seq (.reg [0, 2, 7, 8, 9, 10] [⟨(some 61), .mv (.s 10), none, [], false⟩,
     ⟨(some 62), .bin .neq .num (.s 61) (.c (.int .i64 0)), none, [], false⟩,
     ⟨(some 63), .mv (.s 62), none, [], false⟩,
     ⟨(some 64), .mv (.s 9), (some (63, false)), [], false⟩,
     ⟨(some 65), .bin .eql .ptr (.s 64) (.c .nilPtr), (some (63, false)), [], false⟩,
     ⟨(some 66), .pick (.s 63) (.c (.bool true)) (.s 65), none, [], false⟩])
   (.cond (.s 66)
    (.seq (.reg [] [⟨(some 6), .mv (.c (.bool false)), none, [], true⟩])
    .ret)
    .skip))
   (.seq (.reg [0, 2, 7, 8, 9] [⟨(some 67), .mv (.s 0), none, [], false⟩,
     ⟨(some 68), .build [(.int .i64 0), (.bool false), (.sl .nil [])] [(0, 1, (.s 67))], none, [], false⟩,
     ⟨(some 11), .alloc 3 (.agg [(.int .i64 0), (.bool false), (.sl .nil [])]), none, [], false⟩,
     ⟨none, .store 3 (.s 11) (.s 68), none, [], false⟩])
   (.seq (.seq (.reg [0, 2, 7, 8, 9, 11] [⟨(some 69), .mv (.s 0), none, [], false⟩,
     ⟨(some 70), .bin .eql .num (.s 69) (.c (.int .i64 3)), none, [], false⟩])
   (.cond (.s 70)
    (.reg [0, 2, 7, 8, 9, 11] [⟨(some 71), .load true 2 (.s 8), none, [], false⟩,
      ⟨(some 72), .fldA 1 true 2 (.s 11), none, [], false⟩,
      ⟨none, .store 2 (.s 72) (.s 71), none, [], false⟩])
    .skip))
   (.seq (.draw [0, 2, 7, 9, 11] [⟨(some 73), .mv (.s 9), none, [], false⟩,
     ⟨(some 74), .mv (.s 2), none, [], false⟩,
     ⟨(some 75), .call (.c (.fn (.func 47) [] [])) [(.s 73), (.s 74)], none, [0, 1], false⟩,
     ⟨(some 76), .load true 3 (.s 11), none, [], false⟩,
     ⟨(some 77), .mv (.s 2), none, [], false⟩,
     ⟨(some 78), .call (.c (.fn (.func 25) [] [])) [(.s 77)], none, [4, 2], false⟩,
     ⟨(some 79), .call (.c (.fn (.func 48) [] [])) [(.s 76), (.s 78)], none, [3, 5], false⟩,
     ⟨(some 80), .call (.c (.fn (.func 30) [] [])) [(.s 75), (.s 79)], none, [2, 6], false⟩,
     ⟨(some 12), .mv (.s 80), none, [7, 0, 1, 2, 3, 4, 5, 6], true⟩])
   (.seq (.draw [0, 2, 7, 9, 11, 12] [⟨(some 81), .mv (.s 9), none, [], false⟩,
     ⟨(some 82), .mv (.s 2), none, [], false⟩,
     ⟨(some 83), .call (.c (.fn (.func 49) [] [])) [(.s 81), (.s 82)], none, [0, 1], false⟩,
     ⟨(some 84), .load true 3 (.s 11), none, [], false⟩,
     ⟨(some 85), .mv (.s 2), none, [], false⟩,
     ⟨(some 86), .call (.c (.fn (.func 25) [] [])) [(.s 85)], none, [4, 2], false⟩,
     ⟨(some 87), .call (.c (.fn (.func 50) [] [])) [(.s 84), (.s 86)], none, [3, 5], false⟩,
     ⟨(some 88), .call (.c (.fn (.func 30) [] [])) [(.s 83), (.s 87)], none, [2, 6], false⟩,
     ⟨(some 13), .mv (.s 88), none, [7, 0, 1, 2, 3, 4, 5, 6], true⟩])
   (.seq (.draw [0, 7, 9, 11, 12, 13] [⟨(some 89), .mv (.s 7), none, [], false⟩,
     ⟨(some 90), .mv (.s 89), none, [0], false⟩,
     ⟨(some 91), .mv (.s 9), (some (90, true)), [1], false⟩,
     ⟨(some 92), .call (.c (.fn (.func 51) [] [])) [(.s 91)], (some (90, true)), [2, 1], false⟩,
     ⟨(some 93), .mv (.s 0), (some (90, true)), [1], false⟩,
     ⟨(some 94), .bin .eql .num (.s 92) (.s 93), (some (90, true)), [3, 4, 1], false⟩,
     ⟨(some 95), .pick (.s 90) (.s 94) (.c (.bool false)), none, [1, 5], false⟩,
     ⟨(some 96), .mv (.s 95), none, [6, 3], false⟩,
     ⟨(some 97), .mv (.s 9), (some (96, true)), [7], false⟩,
     ⟨(some 98), .call (.c (.fn (.func 53) [] [])) [(.s 97)], (some (96, true)), [8, 7], false⟩,
     ⟨(some 99), .fldA 1 true 2 (.s 11), (some (96, true)), [7], false⟩,
     ⟨(some 100), .load true 2 (.s 99), (some (96, true)), [10, 7], false⟩,
     ⟨(some 101), .call (.c (.fn (.func 52) [] [])) [(.s 98), (.s 100)], (some (96, true)), [9, 11, 7], false⟩,
     ⟨(some 102), .pick (.s 96) (.s 101) (.c (.bool false)), none, [7, 12], false⟩,
     ⟨(some 103), .mv (.s 102), none, [13, 12], false⟩,
     ⟨(some 104), .mv (.s 12), (some (103, true)), [14], false⟩,
     ⟨(some 105), .pick (.s 103) (.s 104) (.c (.bool false)), none, [14, 15], false⟩,
     ⟨(some 106), .mv (.s 105), none, [16, 14], false⟩,
     ⟨(some 107), .mv (.s 13), (some (106, true)), [17], false⟩,
     ⟨(some 108), .pick (.s 106) (.s 107) (.c (.bool false)), none, [17, 18], false⟩,
     ⟨(some 6), .mv (.s 108), none, [19, 17, 0, 1, 2, 3, 4, 5, 6, 7, 8, 9, 10, 11, 12, 13, 14, 15, 16, 18], true⟩])
   .ret))))))))))))) }
theorem tr10 : trF Tryz.prog h10 Tryz.f10 = some i10 := by kernel_rfl

-- ashlar/ashlarlaw8.OrePower
def h11 : List (List Nat) := [[0, 1, 2, 3], [0, 2, 3, 5], [0, 2, 3, 5, 9], [0, 2, 3, 5, 9], [2, 3, 9, 10, 11, 12], [9], [2, 3, 9, 10, 11], [2, 3, 9, 11, 13, 14], [9, 13, 14], [2, 3, 9, 11, 13, 14], [9], [2, 3, 9, 11, 13, 14], [3, 9, 11, 13, 14, 15], [3, 9, 11, 13, 14, 15, 16], [3, 9, 11, 13, 14, 15, 16, 17], [3, 9, 11, 13, 14, 15, 16, 17], [3, 9, 11, 13, 14, 15, 16, 17], [3, 9, 11, 13, 14, 15, 17], [3, 9, 11, 13, 14, 15, 16, 17], [9, 13, 14], [3, 9, 11, 13, 14, 15, 16, 17], [3, 9, 11, 13, 14, 15, 16, 17], [9, 13, 14, 16]]
def i11 : IFn := { nparams := 4, ntmps := 100, results := [.tmp 8], body :=
  (.seq (.reg [0, 1, 2, 3] [⟨(some 5), .box 2 (.s 1), none, [], false⟩,
     ⟨(some 8), .mv (.c (.bool false)), none, [], true⟩])
   (.seq (.reg [0, 2, 3, 5] [⟨(some 18), .call (.c (.fn (.func 14) [] [])) [], none, [], false⟩,
     ⟨(some 9), .mv (.s 18), none, [], true⟩])
   (.seq (.reg [0, 2, 3, 5, 9] [⟨(some 19), .mv (.s 2), none, [], false⟩,
     ⟨(some 20), .call (.c (.fn (.func 27) [] [])) [(.s 19), (.c (.int .i64 2)), (.c (.int .i64 3)), (.c (.int .i64 1))], none, [], false⟩,
     ⟨(some 2), .mv (.s 20), none, [], true⟩])
   (.seq (.reg [0, 2, 3, 5, 9] [⟨(some 22), .mv (.s 0), none, [], false⟩,
     ⟨(some 23), .load true 2 (.s 5), none, [], false⟩,
     ⟨(some 24), .call (.c (.fn (.func 16) [] [])) [(.s 22), (.s 23)], none, [], false⟩,
     ⟨(some 21), .mv (.s 24), none, [], false⟩,
     ⟨(some 25), .extr (.s 21) 0, none, [], false⟩,
     ⟨(some 26), .extr (.s 21) 1, none, [], false⟩,
     ⟨(some 27), .extr (.s 21) 2, none, [], false⟩,
     ⟨(some 11), .alloc 3 (.agg [(.int .i64 0), (.bool false), (.sl .nil [])]), none, [], false⟩,
     ⟨(some 10), .mv (.s 25), none, [], true⟩,
     ⟨none, .store 3 (.s 11) (.s 26), none, [], false⟩,
     ⟨(some 12), .mv (.s 27), none, [], true⟩])
   (.seq (.seq (.reg [2, 3, 9, 10, 11, 12] [⟨(some 28), .mv (.s 12), none, [], false⟩,
     ⟨(some 29), .un .not (.s 28), none, [], false⟩])
   (.cond (.s 29)
    (.seq (.reg [9] [⟨(some 30), .mv (.s 9), none, [], false⟩,
      ⟨(some 8), .mv (.s 30), none, [], true⟩])
    .ret)
    .skip))
   (.seq (.reg [2, 3, 9, 10, 11] [⟨(some 32), .mv (.s 10), none, [], false⟩,
     ⟨(some 33), .mv (.s 2), none, [], false⟩,
     ⟨(some 34), .mv (.s 3), none, [], false⟩,
     ⟨(some 35), .call (.c (.fn (.func 54) [] [])) [(.s 32), (.s 33), (.s 34)], none, [], false⟩,
     ⟨(some 31), .mv (.s 35), none, [], false⟩,
     ⟨(some 36), .extr (.s 31) 0, none, [], false⟩,
     ⟨(some 37), .extr (.s 31) 1, none, [], false⟩,
     ⟨(some 13), .mv (.s 36), none, [], true⟩,
     ⟨(some 14), .mv (.s 37), none, [], true⟩])
   (.seq (.seq (.reg [2, 3, 9, 11, 13, 14] [⟨(some 38), .mv (.s 3), none, [], false⟩,
     ⟨(some 39), .bin .lss .num (.s 38) (.c (.int .i64 0)), none, [], false⟩,
     ⟨(some 40), .mv (.s 39), none, [], false⟩,
     ⟨(some 41), .mv (.s 3), (some (40, false)), [], false⟩,
     ⟨(some 42), .bin .gtr .num (.s 41) (.c (.int .i64 64)), (some (40, false)), [], false⟩,
     ⟨(some 43), .pick (.s 40) (.c (.bool true)) (.s 42), none, [], false⟩])
   (.cond (.s 43)
    (.seq (.reg [9, 13, 14] [⟨(some 44), .mv (.s 9), none, [], false⟩,
      ⟨(some 45), .mv (.s 44), none, [], false⟩,
      ⟨(some 46), .mv (.s 14), (some (45, true)), [], false⟩,
      ⟨(some 47), .bin .eql .num (.s 46) (.c (.int .i64 1)), (some (45, true)), [], false⟩,
      ⟨(some 48), .pick (.s 45) (.s 47) (.c (.bool false)), none, [], false⟩,
      ⟨(some 49), .mv (.s 48), none, [], false⟩,
      ⟨(some 50), .mv (.s 13), (some (49, true)), [], false⟩,
      ⟨(some 51), .len false (.s 50), (some (49, true)), [], false⟩,
      ⟨(some 52), .bin .eql .num (.s 51) (.c (.int .i64 0)), (some (49, true)), [], false⟩,
      ⟨(some 53), .pick (.s 49) (.s 52) (.c (.bool false)), none, [], false⟩,
      ⟨(some 8), .mv (.s 53), none, [], true⟩])
    .ret)
    .skip))
   (.seq (.seq (.reg [2, 3, 9, 11, 13, 14] [⟨(some 54), .mv (.s 3), none, [], false⟩,
     ⟨(some 55), .bin .gtr .num (.s 54) (.c (.int .i64 5)), none, [], false⟩])
   (.cond (.s 55)
    (.seq (.reg [9] [⟨(some 56), .mv (.s 9), none, [], false⟩,
      ⟨(some 8), .mv (.s 56), none, [], true⟩])
    .ret)
    .skip))
   (.seq (.reg [2, 3, 9, 11, 13, 14] [⟨(some 57), .mv (.s 2), none, [], false⟩,
     ⟨(some 58), .call (.c (.fn (.func 17) [] [])) [(.s 57)], none, [], false⟩,
     ⟨(some 15), .mv (.s 58), none, [], true⟩])
   (.seq (.reg [3, 9, 11, 13, 14, 15] [⟨(some 59), .bsl 1 (.int .i64 0) 1 [(0, (.c (.int .i64 1)))], none, [], false⟩,
     ⟨(some 60), .call (.c (.fn (.func 55) [] [])) [(.s 59)], none, [], false⟩,
     ⟨(some 61), .bsl 1 (.sl .nil []) 1 [(0, (.s 60))], none, [], false⟩,
     ⟨(some 16), .mv (.s 61), none, [], true⟩])
   (.seq (.seq (.reg [3, 9, 11, 13, 14, 15, 16] [⟨(some 17), .mv (.c (.int .i64 0)), none, [], true⟩])
   (.block 0
    (.loop [3, 9, 11, 13, 14, 15, 16, 17]
     (.seq (.seq (.reg [3, 9, 11, 13, 14, 15, 16, 17] [⟨(some 62), .mv (.s 17), none, [], false⟩,
       ⟨(some 63), .mv (.s 3), none, [], false⟩,
       ⟨(some 64), .bin .lss .num (.s 62) (.s 63), none, [], false⟩])
     (.cond (.s 64)
      .skip
      (.exit 0)))
     (.seq (.block 1
      (.seq (.seq (.reg [3, 9, 11, 13, 14, 15, 16, 17] [⟨(some 67), .mv (.s 17), none, [], false⟩,
        ⟨(some 68), .bin .eql .num (.s 67) (.c (.int .i64 0)), none, [], false⟩])
      (.cond (.s 68)
       (.seq (.reg [3, 9, 11, 13, 14, 15, 17] [⟨(some 69), .mv (.s 15), none, [], false⟩,
         ⟨(some 16), .mv (.s 69), none, [], true⟩])
       (.exit 1))
       .skip))
      (.seq (.seq (.reg [3, 9, 11, 13, 14, 15, 16, 17] [⟨(some 70), .mv (.s 16), none, [], false⟩,
        ⟨(some 71), .mv (.s 15), none, [], false⟩,
        ⟨(some 72), .fldA 1 true 2 (.s 11), none, [], false⟩,
        ⟨(some 73), .load true 2 (.s 72), none, [], false⟩,
        ⟨(some 74), .call (.c (.fn (.func 19) [] [])) [(.s 70), (.s 71), (.s 73)], none, [], false⟩,
        ⟨(some 75), .bin .gtr .num (.s 74) (.c (.int .i64 1048576)), none, [], false⟩])
      (.cond (.s 75)
       (.seq (.reg [9, 13, 14] [⟨(some 76), .mv (.s 9), none, [], false⟩,
         ⟨(some 77), .mv (.s 76), none, [], false⟩,
         ⟨(some 78), .mv (.s 14), (some (77, true)), [], false⟩,
         ⟨(some 79), .bin .eql .num (.s 78) (.c (.int .i64 4)), (some (77, true)), [], false⟩,
         ⟨(some 80), .pick (.s 77) (.s 79) (.c (.bool false)), none, [], false⟩,
         ⟨(some 81), .mv (.s 80), none, [], false⟩,
         ⟨(some 82), .mv (.s 13), (some (81, true)), [], false⟩,
         ⟨(some 83), .len false (.s 82), (some (81, true)), [], false⟩,
         ⟨(some 84), .bin .eql .num (.s 83) (.c (.int .i64 0)), (some (81, true)), [], false⟩,
         ⟨(some 85), .pick (.s 81) (.s 84) (.c (.bool false)), none, [], false⟩,
         ⟨(some 8), .mv (.s 85), none, [], true⟩])
       .ret)
       .skip))
      (.reg [3, 9, 11, 13, 14, 15, 16, 17] [⟨(some 86), .load true 3 (.s 11), none, [], false⟩,
        ⟨(some 87), .mv (.s 16), none, [], false⟩,
        ⟨(some 88), .mv (.s 15), none, [], false⟩,
        ⟨(some 89), .call (.c (.fn (.func 21) [] [])) [(.s 86), (.s 87), (.s 88)], none, [], false⟩,
        ⟨(some 16), .mv (.s 89), none, [], true⟩]))))
     (.reg [3, 9, 11, 13, 14, 15, 16, 17] [⟨(some 65), .mv (.s 17), none, [], false⟩,
       ⟨(some 66), .bin .add .num (.s 65) (.c (.int .i64 1)), none, [], false⟩,
       ⟨(some 17), .mv (.s 66), none, [], true⟩]))))))
   (.seq (.reg [9, 13, 14, 16] [⟨(some 90), .mv (.s 9), none, [], false⟩,
     ⟨(some 91), .mv (.s 90), none, [], false⟩,
     ⟨(some 92), .mv (.s 14), (some (91, true)), [], false⟩,
     ⟨(some 93), .bin .eql .num (.s 92) (.c (.int .i64 0)), (some (91, true)), [], false⟩,
     ⟨(some 94), .pick (.s 91) (.s 93) (.c (.bool false)), none, [], false⟩,
     ⟨(some 95), .mv (.s 94), none, [], false⟩,
     ⟨(some 96), .mv (.s 13), (some (95, true)), [], false⟩,
     ⟨(some 97), .mv (.s 16), (some (95, true)), [], false⟩,
     ⟨(some 98), .call (.c (.fn (.func 20) [] [])) [(.s 96), (.s 97)], (some (95, true)), [], false⟩,
     ⟨(some 99), .pick (.s 95) (.s 98) (.c (.bool false)), none, [], false⟩,
     ⟨(some 8), .mv (.s 99), none, [], true⟩])
   .ret)))))))))))) }
theorem tr11 : trF Tryz.prog h11 Tryz.f11 = some i11 := by kernel_rfl

-- ashlar/ashlarlaw8.OreSums
def h12 : List (List Nat) := [[0, 1, 2], [0, 1, 2], [0, 1, 2, 7], [0, 1, 2, 7], [0, 1, 2, 7, 8, 9], [0, 1, 2, 7, 8, 9, 10], [0, 1, 2, 7, 8, 9, 10, 11], [0, 1, 7, 8, 9, 10, 11, 12], [0, 1, 7, 8, 9, 10, 11, 12, 13], [0, 1, 7, 8, 9, 10, 11, 12, 13, 14]]
def i12 : IFn := { nparams := 3, ntmps := 103, results := [.tmp 6], body :=
  (.seq (.reg [0, 1, 2] [⟨(some 6), .mv (.c (.bool false)), none, [], true⟩])
   (.seq (.reg [0, 1, 2] [⟨(some 15), .call (.c (.fn (.func 14) [] [])) [], none, [], false⟩,
     ⟨(some 7), .mv (.s 15), none, [], true⟩])
   (.seq (.reg [0, 1, 2, 7] [⟨(some 16), .mv (.s 0), none, [], false⟩,
     ⟨(some 17), .call (.c (.fn (.func 15) [] [])) [(.s 16)], none, [], false⟩,
     ⟨(some 18), .mv (.s 1), none, [], false⟩,
     ⟨(some 19), .call (.c (.fn (.func 15) [] [])) [(.s 18)], none, [], false⟩,
     ⟨(some 20), .mv (.s 2), none, [], false⟩,
     ⟨(some 21), .call (.c (.fn (.func 26) [] [])) [(.s 20), (.c (.int .i64 4)), (.c (.int .i64 2))], none, [], false⟩,
     ⟨(some 0), .mv (.s 17), none, [], true⟩,
     ⟨(some 1), .mv (.s 19), none, [], true⟩,
     ⟨(some 2), .mv (.s 21), none, [], true⟩])
   (.seq (.reg [0, 1, 2, 7] [⟨(some 22), .mv (.s 0), none, [], false⟩,
     ⟨(some 23), .call (.c (.fn (.func 17) [] [])) [(.s 22)], none, [], false⟩,
     ⟨(some 24), .mv (.s 1), none, [], false⟩,
     ⟨(some 25), .call (.c (.fn (.func 17) [] [])) [(.s 24)], none, [], false⟩,
     ⟨(some 8), .mv (.s 23), none, [], true⟩,
     ⟨(some 9), .mv (.s 25), none, [], true⟩])
   (.seq (.reg [0, 1, 2, 7, 8, 9] [⟨(some 26), .mv (.s 0), none, [], false⟩,
     ⟨(some 27), .mv (.s 1), none, [], false⟩,
     ⟨(some 28), .call (.c (.fn (.func 36) [] [])) [(.s 26), (.s 27)], none, [], false⟩,
     ⟨(some 29), .mv (.s 8), none, [], false⟩,
     ⟨(some 30), .mv (.s 9), none, [], false⟩,
     ⟨(some 31), .call (.c (.fn (.func 56) [] [])) [(.s 29), (.s 30)], none, [], false⟩,
     ⟨(some 32), .call (.c (.fn (.func 20) [] [])) [(.s 28), (.s 31)], none, [], false⟩,
     ⟨(some 10), .mv (.s 32), none, [], true⟩])
   (.seq (.reg [0, 1, 2, 7, 8, 9, 10] [⟨(some 33), .mv (.s 0), none, [], false⟩,
     ⟨(some 34), .mv (.s 1), none, [], false⟩,
     ⟨(some 35), .call (.c (.fn (.func 57) [] [])) [(.s 33), (.s 34)], none, [], false⟩,
     ⟨(some 36), .mv (.s 8), none, [], false⟩,
     ⟨(some 37), .mv (.s 9), none, [], false⟩,
     ⟨(some 38), .call (.c (.fn (.func 58) [] [])) [(.s 36), (.s 37)], none, [], false⟩,
     ⟨(some 39), .call (.c (.fn (.func 20) [] [])) [(.s 35), (.s 38)], none, [], false⟩,
     ⟨(some 11), .mv (.s 39), none, [], true⟩])
   (.seq (.reg [0, 1, 2, 7, 8, 9, 10, 11] [⟨(some 40), .mv (.s 2), none, [], false⟩,
     ⟨(some 41), .mv (.s 0), none, [], false⟩,
     ⟨(some 42), .call (.c (.fn (.func 59) [] [])) [(.s 40), (.s 41)], none, [], false⟩,
     ⟨(some 43), .mv (.s 2), none, [], false⟩,
     ⟨(some 44), .call (.c (.fn (.func 25) [] [])) [(.s 43)], none, [], false⟩,
     ⟨(some 45), .mv (.s 8), none, [], false⟩,
     ⟨(some 46), .call (.c (.fn (.func 24) [] [])) [(.s 44), (.s 45)], none, [], false⟩,
     ⟨(some 47), .call (.c (.fn (.func 20) [] [])) [(.s 42), (.s 46)], none, [], false⟩,
     ⟨(some 12), .mv (.s 47), none, [], true⟩])
   (.seq (.reg [0, 1, 7, 8, 9, 10, 11, 12] [⟨(some 48), .mv (.s 0), none, [], false⟩,
     ⟨(some 49), .call (.c (.fn (.func 60) [] [])) [(.s 48)], none, [], false⟩,
     ⟨(some 50), .mv (.s 8), none, [], false⟩,
     ⟨(some 51), .call (.c (.fn (.func 20) [] [])) [(.s 49), (.s 50)], none, [], false⟩,
     ⟨(some 13), .mv (.s 51), none, [], true⟩])
   (.seq (.reg [0, 1, 7, 8, 9, 10, 11, 12, 13] [⟨(some 52), .mv (.s 0), none, [], false⟩,
     ⟨(some 53), .call (.c (.fn (.func 61) [] [])) [(.s 52)], none, [], false⟩,
     ⟨(some 54), .mv (.s 8), none, [], false⟩,
     ⟨(some 55), .call (.c (.fn (.func 62) [] [])) [(.s 54)], none, [], false⟩,
     ⟨(some 56), .call (.c (.fn (.func 30) [] [])) [(.s 53), (.s 55)], none, [], false⟩,
     ⟨(some 14), .mv (.s 56), none, [], true⟩])
   (.seq (.reg [0, 1, 7, 8, 9, 10, 11, 12, 13, 14] [⟨(some 57), .mv (.s 7), none, [], false⟩,
     ⟨(some 58), .mv (.s 57), none, [], false⟩,
     ⟨(some 59), .mv (.s 10), (some (58, true)), [], false⟩,
     ⟨(some 60), .pick (.s 58) (.s 59) (.c (.bool false)), none, [], false⟩,
     ⟨(some 61), .mv (.s 60), none, [], false⟩,
     ⟨(some 62), .mv (.s 11), (some (61, true)), [], false⟩,
     ⟨(some 63), .pick (.s 61) (.s 62) (.c (.bool false)), none, [], false⟩,
     ⟨(some 64), .mv (.s 63), none, [], false⟩,
     ⟨(some 65), .mv (.s 12), (some (64, true)), [], false⟩,
     ⟨(some 66), .pick (.s 64) (.s 65) (.c (.bool false)), none, [], false⟩,
     ⟨(some 67), .mv (.s 66), none, [], false⟩,
     ⟨(some 68), .mv (.s 13), (some (67, true)), [], false⟩,
     ⟨(some 69), .pick (.s 67) (.s 68) (.c (.bool false)), none, [], false⟩,
     ⟨(some 70), .mv (.s 69), none, [], false⟩,
     ⟨(some 71), .mv (.s 14), (some (70, true)), [], false⟩,
     ⟨(some 72), .pick (.s 70) (.s 71) (.c (.bool false)), none, [], false⟩,
     ⟨(some 73), .mv (.s 72), none, [], false⟩,
     ⟨(some 74), .mv (.s 0), (some (73, true)), [], false⟩,
     ⟨(some 75), .call (.c (.fn (.func 37) [] [])) [(.s 74)], (some (73, true)), [], false⟩,
     ⟨(some 76), .mv (.s 8), (some (73, true)), [], false⟩,
     ⟨(some 77), .call (.c (.fn (.func 63) [] [])) [(.s 76)], (some (73, true)), [], false⟩,
     ⟨(some 78), .bin .eql .num (.s 75) (.s 77), (some (73, true)), [], false⟩,
     ⟨(some 79), .pick (.s 73) (.s 78) (.c (.bool false)), none, [], false⟩,
     ⟨(some 80), .mv (.s 79), none, [], false⟩,
     ⟨(some 81), .mv (.s 0), (some (80, true)), [], false⟩,
     ⟨(some 82), .call (.c (.fn (.func 64) [] [])) [(.s 81)], (some (80, true)), [], false⟩,
     ⟨(some 83), .mv (.s 8), (some (80, true)), [], false⟩,
     ⟨(some 84), .call (.c (.fn (.func 65) [] [])) [(.s 83)], (some (80, true)), [], false⟩,
     ⟨(some 85), .bin .eql .num (.s 82) (.s 84), (some (80, true)), [], false⟩,
     ⟨(some 86), .pick (.s 80) (.s 85) (.c (.bool false)), none, [], false⟩,
     ⟨(some 87), .mv (.s 86), none, [], false⟩,
     ⟨(some 88), .mv (.s 0), (some (87, true)), [], false⟩,
     ⟨(some 89), .call (.c (.fn (.func 66) [] [])) [(.s 88)], (some (87, true)), [], false⟩,
     ⟨(some 90), .mv (.s 8), (some (87, true)), [], false⟩,
     ⟨(some 91), .call (.c (.fn (.func 67) [] [])) [(.s 90)], (some (87, true)), [], false⟩,
     ⟨(some 92), .bin .eql .num (.s 89) (.s 91), (some (87, true)), [], false⟩,
     ⟨(some 93), .pick (.s 87) (.s 92) (.c (.bool false)), none, [], false⟩,
     ⟨(some 94), .mv (.s 93), none, [], false⟩,
     ⟨(some 95), .mv (.s 0), (some (94, true)), [], false⟩,
     ⟨(some 96), .mv (.s 1), (some (94, true)), [], false⟩,
     ⟨(some 97), .call (.c (.fn (.func 38) [] [])) [(.s 95), (.s 96)], (some (94, true)), [], false⟩,
     ⟨(some 98), .mv (.s 8), (some (94, true)), [], false⟩,
     ⟨(some 99), .mv (.s 9), (some (94, true)), [], false⟩,
     ⟨(some 100), .call (.c (.fn (.func 68) [] [])) [(.s 98), (.s 99)], (some (94, true)), [], false⟩,
     ⟨(some 101), .bin .eql .bool (.s 97) (.s 100), (some (94, true)), [], false⟩,
     ⟨(some 102), .pick (.s 94) (.s 101) (.c (.bool false)), none, [], false⟩,
     ⟨(some 6), .mv (.s 102), none, [], true⟩])
   .ret)))))))))) }
theorem tr12 : trF Tryz.prog h12 Tryz.f12 = some i12 := by kernel_rfl

-- ashlar/ashlarlaw8.OreNone
def h13 : List (List Nat) := [[], [], [1], [1, 2], [1, 2, 3, 4], [1, 2, 3, 4, 5, 6], [1, 2, 3, 4, 5, 6, 7, 8]]
def i13 : IFn := { nparams := 0, ntmps := 93, results := [.tmp 0], body :=
  (.seq (.reg [] [⟨(some 0), .mv (.c (.bool false)), none, [], true⟩])
   (.seq (.reg [] [⟨(some 1), .mv (.c .nilPtr), none, [], true⟩])
   (.seq (.reg [1] [⟨(some 9), .bsl 1 (.int .i64 0) 1 [(0, (.c (.int .i64 1)))], none, [], false⟩,
     ⟨(some 10), .call (.c (.fn (.func 55) [] [])) [(.s 9)], none, [], false⟩,
     ⟨(some 11), .bsl 1 (.sl .nil []) 1 [(0, (.s 10))], none, [], false⟩,
     ⟨(some 12), .call (.c (.fn (.func 69) [] [])) [(.s 11)], none, [], false⟩,
     ⟨(some 2), .mv (.s 12), none, [], true⟩])
   (.seq (.reg [1, 2] [⟨(some 14), .mv (.s 1), none, [], false⟩,
     ⟨(some 15), .mv (.s 2), none, [], false⟩,
     ⟨(some 16), .mv (.s 2), none, [], false⟩,
     ⟨(some 17), .call (.c (.fn (.func 18) [] [])) [(.s 14), (.s 15), (.s 16)], none, [], false⟩,
     ⟨(some 13), .mv (.s 17), none, [], false⟩,
     ⟨(some 18), .extr (.s 13) 0, none, [], false⟩,
     ⟨(some 19), .extr (.s 13) 1, none, [], false⟩,
     ⟨(some 3), .mv (.s 18), none, [], true⟩,
     ⟨(some 4), .mv (.s 19), none, [], true⟩])
   (.seq (.reg [1, 2, 3, 4] [⟨(some 21), .mv (.s 1), none, [], false⟩,
     ⟨(some 22), .mv (.s 2), none, [], false⟩,
     ⟨(some 23), .call (.c (.fn (.func 54) [] [])) [(.s 21), (.s 22), (.c (.int .i64 2))], none, [], false⟩,
     ⟨(some 20), .mv (.s 23), none, [], false⟩,
     ⟨(some 24), .extr (.s 20) 0, none, [], false⟩,
     ⟨(some 25), .extr (.s 20) 1, none, [], false⟩,
     ⟨(some 5), .mv (.s 24), none, [], true⟩,
     ⟨(some 6), .mv (.s 25), none, [], true⟩])
   (.seq (.reg [1, 2, 3, 4, 5, 6] [⟨(some 27), .mv (.s 1), none, [], false⟩,
     ⟨(some 28), .mv (.s 2), none, [], false⟩,
     ⟨(some 29), .mv (.s 2), none, [], false⟩,
     ⟨(some 30), .idxA 1 (.s 29) (.c (.int .i64 0)), none, [], false⟩,
     ⟨(some 31), .load false 1 (.s 30), none, [], false⟩,
     ⟨(some 32), .call (.c (.fn (.func 33) [] [])) [(.s 27), (.s 28), (.s 31)], none, [], false⟩,
     ⟨(some 26), .mv (.s 32), none, [], false⟩,
     ⟨(some 33), .extr (.s 26) 0, none, [], false⟩,
     ⟨(some 34), .extr (.s 26) 1, none, [], false⟩,
     ⟨(some 7), .mv (.s 33), none, [], true⟩,
     ⟨(some 8), .mv (.s 34), none, [], true⟩])
   (.seq (.reg [1, 2, 3, 4, 5, 6, 7, 8] [⟨(some 35), .call (.c (.fn (.func 14) [] [])) [], none, [], false⟩,
     ⟨(some 36), .mv (.s 35), none, [], false⟩,
     ⟨(some 37), .mv (.s 4), (some (36, true)), [], false⟩,
     ⟨(some 38), .bin .eql .num (.s 37) (.c (.int .i64 1)), (some (36, true)), [], false⟩,
     ⟨(some 39), .pick (.s 36) (.s 38) (.c (.bool false)), none, [], false⟩,
     ⟨(some 40), .mv (.s 39), none, [], false⟩,
     ⟨(some 41), .mv (.s 3), (some (40, true)), [], false⟩,
     ⟨(some 42), .len false (.s 41), (some (40, true)), [], false⟩,
     ⟨(some 43), .bin .eql .num (.s 42) (.c (.int .i64 0)), (some (40, true)), [], false⟩,
     ⟨(some 44), .pick (.s 40) (.s 43) (.c (.bool false)), none, [], false⟩,
     ⟨(some 45), .mv (.s 44), none, [], false⟩,
     ⟨(some 46), .mv (.s 6), (some (45, true)), [], false⟩,
     ⟨(some 47), .bin .eql .num (.s 46) (.c (.int .i64 1)), (some (45, true)), [], false⟩,
     ⟨(some 48), .pick (.s 45) (.s 47) (.c (.bool false)), none, [], false⟩,
     ⟨(some 49), .mv (.s 48), none, [], false⟩,
     ⟨(some 50), .mv (.s 5), (some (49, true)), [], false⟩,
     ⟨(some 51), .len false (.s 50), (some (49, true)), [], false⟩,
     ⟨(some 52), .bin .eql .num (.s 51) (.c (.int .i64 0)), (some (49, true)), [], false⟩,
     ⟨(some 53), .pick (.s 49) (.s 52) (.c (.bool false)), none, [], false⟩,
     ⟨(some 54), .mv (.s 53), none, [], false⟩,
     ⟨(some 55), .mv (.s 8), (some (54, true)), [], false⟩,
     ⟨(some 56), .bin .eql .num (.s 55) (.c (.int .i64 1)), (some (54, true)), [], false⟩,
     ⟨(some 57), .pick (.s 54) (.s 56) (.c (.bool false)), none, [], false⟩,
     ⟨(some 58), .mv (.s 57), none, [], false⟩,
     ⟨(some 59), .mv (.s 7), (some (58, true)), [], false⟩,
     ⟨(some 60), .len false (.s 59), (some (58, true)), [], false⟩,
     ⟨(some 61), .bin .eql .num (.s 60) (.c (.int .i64 0)), (some (58, true)), [], false⟩,
     ⟨(some 62), .pick (.s 58) (.s 61) (.c (.bool false)), none, [], false⟩,
     ⟨(some 63), .mv (.s 62), none, [], false⟩,
     ⟨(some 64), .mv (.s 1), (some (63, true)), [], false⟩,
     ⟨(some 65), .call (.c (.fn (.func 51) [] [])) [(.s 64)], (some (63, true)), [], false⟩,
     ⟨(some 66), .bin .eql .num (.s 65) (.c (.int .i64 0)), (some (63, true)), [], false⟩,
     ⟨(some 67), .pick (.s 63) (.s 66) (.c (.bool false)), none, [], false⟩,
     ⟨(some 68), .mv (.s 67), none, [], false⟩,
     ⟨(some 69), .mv (.s 1), (some (68, true)), [], false⟩,
     ⟨(some 70), .call (.c (.fn (.func 53) [] [])) [(.s 69)], (some (68, true)), [], false⟩,
     ⟨(some 71), .fld 1 false 1 (.s 70), (some (68, true)), [], false⟩,
     ⟨(some 72), .len false (.s 71), (some (68, true)), [], false⟩,
     ⟨(some 73), .bin .eql .num (.s 72) (.c (.int .i64 0)), (some (68, true)), [], false⟩,
     ⟨(some 74), .pick (.s 68) (.s 73) (.c (.bool false)), none, [], false⟩,
     ⟨(some 75), .mv (.s 74), none, [], false⟩,
     ⟨(some 76), .mv (.s 1), (some (75, true)), [], false⟩,
     ⟨(some 77), .mv (.s 2), (some (75, true)), [], false⟩,
     ⟨(some 78), .idxA 1 (.s 77) (.c (.int .i64 0)), (some (75, true)), [], false⟩,
     ⟨(some 79), .load false 1 (.s 78), (some (75, true)), [], false⟩,
     ⟨(some 80), .call (.c (.fn (.func 47) [] [])) [(.s 76), (.s 79)], (some (75, true)), [], false⟩,
     ⟨(some 81), .len false (.s 80), (some (75, true)), [], false⟩,
     ⟨(some 82), .bin .eql .num (.s 81) (.c (.int .i64 0)), (some (75, true)), [], false⟩,
     ⟨(some 83), .pick (.s 75) (.s 82) (.c (.bool false)), none, [], false⟩,
     ⟨(some 84), .mv (.s 83), none, [], false⟩,
     ⟨(some 85), .mv (.s 1), (some (84, true)), [], false⟩,
     ⟨(some 86), .mv (.s 2), (some (84, true)), [], false⟩,
     ⟨(some 87), .idxA 1 (.s 86) (.c (.int .i64 0)), (some (84, true)), [], false⟩,
     ⟨(some 88), .load false 1 (.s 87), (some (84, true)), [], false⟩,
     ⟨(some 89), .call (.c (.fn (.func 49) [] [])) [(.s 85), (.s 88)], (some (84, true)), [], false⟩,
     ⟨(some 90), .len false (.s 89), (some (84, true)), [], false⟩,
     ⟨(some 91), .bin .eql .num (.s 90) (.c (.int .i64 0)), (some (84, true)), [], false⟩,
     ⟨(some 92), .pick (.s 84) (.s 91) (.c (.bool false)), none, [], false⟩,
     ⟨(some 0), .mv (.s 92), none, [], true⟩])
   .ret))))))) }
theorem tr13 : trF Tryz.prog h13 Tryz.f13 = some i13 := by kernel_rfl

-- ashlar/ashlarlaw8.Begun
def h14 : List (List Nat) := [[], [], [1, 2], [], [1], [1, 3], [1, 3, 4], [1, 3, 5, 6], [1, 3, 5, 6, 7], [1, 5, 6, 7, 8, 9]]
def i14 : IFn := { nparams := 0, ntmps := 99, results := [.tmp 0], body :=
  (.seq (.reg [] [⟨(some 0), .mv (.c (.bool false)), none, [], true⟩])
   (.seq (.reg [] [⟨(some 11), .build [(.bool false), (.sl .nil [])] [], none, [], false⟩,
     ⟨(some 12), .call (.c (.fn (.func 44) [] [])) [(.c (.int .i64 2)), (.s 11)], none, [], false⟩,
     ⟨(some 10), .mv (.s 12), none, [], false⟩,
     ⟨(some 13), .extr (.s 10) 0, none, [], false⟩,
     ⟨(some 14), .extr (.s 10) 1, none, [], false⟩,
     ⟨(some 1), .mv (.s 13), none, [], true⟩,
     ⟨(some 2), .mv (.s 14), none, [], true⟩])
   (.seq (.seq (.reg [1, 2] [⟨(some 15), .mv (.s 2), none, [], false⟩,
     ⟨(some 16), .bin .neq .num (.s 15) (.c (.int .i64 0)), none, [], false⟩,
     ⟨(some 17), .mv (.s 16), none, [], false⟩,
     ⟨(some 18), .mv (.s 1), (some (17, false)), [], false⟩,
     ⟨(some 19), .bin .eql .ptr (.s 18) (.c .nilPtr), (some (17, false)), [], false⟩,
     ⟨(some 20), .pick (.s 17) (.c (.bool true)) (.s 19), none, [], false⟩])
   (.cond (.s 20)
    (.seq (.reg [] [⟨(some 0), .mv (.c (.bool false)), none, [], true⟩])
    .ret)
    .skip))
   (.seq (.reg [1] [⟨(some 21), .bsl 1 (.int .i64 0) 1 [(0, (.c (.int .i64 1)))], none, [], false⟩,
     ⟨(some 22), .call (.c (.fn (.func 55) [] [])) [(.s 21)], none, [], false⟩,
     ⟨(some 23), .bsl 1 (.sl .nil []) 2 [(0, (.c (.sl .nil []))), (1, (.s 22))], none, [], false⟩,
     ⟨(some 24), .call (.c (.fn (.func 69) [] [])) [(.s 23)], none, [], false⟩,
     ⟨(some 3), .mv (.s 24), none, [], true⟩])
   (.seq (.reg [1, 3] [⟨(some 25), .bsl 1 (.int .i64 0) 2 [(0, (.c (.int .i64 0))), (1, (.c (.int .i64 1)))], none, [], false⟩,
     ⟨(some 26), .call (.c (.fn (.func 55) [] [])) [(.s 25)], none, [], false⟩,
     ⟨(some 27), .bsl 1 (.sl .nil []) 1 [(0, (.s 26))], none, [], false⟩,
     ⟨(some 28), .call (.c (.fn (.func 69) [] [])) [(.s 27)], none, [], false⟩,
     ⟨(some 4), .mv (.s 28), none, [], true⟩])
   (.seq (.reg [1, 3, 4] [⟨(some 30), .mv (.s 1), none, [], false⟩,
     ⟨(some 31), .mv (.s 3), none, [], false⟩,
     ⟨(some 32), .mv (.s 4), none, [], false⟩,
     ⟨(some 33), .call (.c (.fn (.func 18) [] [])) [(.s 30), (.s 31), (.s 32)], none, [], false⟩,
     ⟨(some 29), .mv (.s 33), none, [], false⟩,
     ⟨(some 34), .extr (.s 29) 0, none, [], false⟩,
     ⟨(some 35), .extr (.s 29) 1, none, [], false⟩,
     ⟨(some 5), .mv (.s 34), none, [], true⟩,
     ⟨(some 6), .mv (.s 35), none, [], true⟩])
   (.seq (.reg [1, 3, 5, 6] [⟨(some 36), .mv (.s 5), none, [], false⟩,
     ⟨(some 37), .mv (.s 3), none, [], false⟩,
     ⟨(some 38), .call (.c (.fn (.func 36) [] [])) [(.s 36), (.s 37)], none, [], false⟩,
     ⟨(some 7), .mv (.s 38), none, [], true⟩])
   (.seq (.reg [1, 3, 5, 6, 7] [⟨(some 40), .mv (.s 1), none, [], false⟩,
     ⟨(some 41), .mv (.s 3), none, [], false⟩,
     ⟨(some 42), .bsl 1 (.int .i64 0) 3 [(0, (.c (.int .i64 0))), (1, (.c (.int .i64 0))), (2, (.c (.int .i64 1)))], none, [], false⟩,
     ⟨(some 43), .call (.c (.fn (.func 55) [] [])) [(.s 42)], none, [], false⟩,
     ⟨(some 44), .call (.c (.fn (.func 41) [] [])) [(.s 43)], none, [], false⟩,
     ⟨(some 45), .call (.c (.fn (.func 33) [] [])) [(.s 40), (.s 41), (.s 44)], none, [], false⟩,
     ⟨(some 39), .mv (.s 45), none, [], false⟩,
     ⟨(some 46), .extr (.s 39) 0, none, [], false⟩,
     ⟨(some 47), .extr (.s 39) 1, none, [], false⟩,
     ⟨(some 8), .mv (.s 46), none, [], true⟩,
     ⟨(some 9), .mv (.s 47), none, [], true⟩])
   (.seq (.reg [1, 5, 6, 7, 8, 9] [⟨(some 48), .mv (.s 6), none, [], false⟩,
     ⟨(some 49), .bin .eql .num (.s 48) (.c (.int .i64 0)), none, [], false⟩,
     ⟨(some 50), .mv (.s 49), none, [], false⟩,
     ⟨(some 51), .mv (.s 5), (some (50, true)), [], false⟩,
     ⟨(some 52), .len false (.s 51), (some (50, true)), [], false⟩,
     ⟨(some 53), .bin .eql .num (.s 52) (.c (.int .i64 2)), (some (50, true)), [], false⟩,
     ⟨(some 54), .pick (.s 50) (.s 53) (.c (.bool false)), none, [], false⟩,
     ⟨(some 55), .mv (.s 54), none, [], false⟩,
     ⟨(some 56), .mv (.s 5), (some (55, true)), [], false⟩,
     ⟨(some 57), .idxA 1 (.s 56) (.c (.int .i64 1)), (some (55, true)), [], false⟩,
     ⟨(some 58), .load false 1 (.s 57), (some (55, true)), [], false⟩,
     ⟨(some 59), .len false (.s 58), (some (55, true)), [], false⟩,
     ⟨(some 60), .bin .eql .num (.s 59) (.c (.int .i64 2)), (some (55, true)), [], false⟩,
     ⟨(some 61), .pick (.s 55) (.s 60) (.c (.bool false)), none, [], false⟩,
     ⟨(some 62), .mv (.s 61), none, [], false⟩,
     ⟨(some 63), .mv (.s 5), (some (62, true)), [], false⟩,
     ⟨(some 64), .idxA 1 (.s 63) (.c (.int .i64 0)), (some (62, true)), [], false⟩,
     ⟨(some 65), .load false 1 (.s 64), (some (62, true)), [], false⟩,
     ⟨(some 66), .len false (.s 65), (some (62, true)), [], false⟩,
     ⟨(some 67), .bin .eql .num (.s 66) (.c (.int .i64 1)), (some (62, true)), [], false⟩,
     ⟨(some 68), .pick (.s 62) (.s 67) (.c (.bool false)), none, [], false⟩,
     ⟨(some 69), .mv (.s 68), none, [], false⟩,
     ⟨(some 70), .mv (.s 7), (some (69, true)), [], false⟩,
     ⟨(some 71), .len false (.s 70), (some (69, true)), [], false⟩,
     ⟨(some 72), .bin .eql .num (.s 71) (.c (.int .i64 2)), (some (69, true)), [], false⟩,
     ⟨(some 73), .pick (.s 69) (.s 72) (.c (.bool false)), none, [], false⟩,
     ⟨(some 74), .mv (.s 73), none, [], false⟩,
     ⟨(some 75), .mv (.s 9), (some (74, true)), [], false⟩,
     ⟨(some 76), .bin .eql .num (.s 75) (.c (.int .i64 0)), (some (74, true)), [], false⟩,
     ⟨(some 77), .pick (.s 74) (.s 76) (.c (.bool false)), none, [], false⟩,
     ⟨(some 78), .mv (.s 77), none, [], false⟩,
     ⟨(some 79), .mv (.s 8), (some (78, true)), [], false⟩,
     ⟨(some 80), .len false (.s 79), (some (78, true)), [], false⟩,
     ⟨(some 81), .bin .eql .num (.s 80) (.c (.int .i64 2)), (some (78, true)), [], false⟩,
     ⟨(some 82), .pick (.s 78) (.s 81) (.c (.bool false)), none, [], false⟩,
     ⟨(some 83), .mv (.s 82), none, [], false⟩,
     ⟨(some 84), .mv (.s 5), (some (83, true)), [], false⟩,
     ⟨(some 85), .call (.c (.fn (.func 37) [] [])) [(.s 84)], (some (83, true)), [], false⟩,
     ⟨(some 86), .bin .eql .num (.s 85) (.c (.int .i64 1)), (some (83, true)), [], false⟩,
     ⟨(some 87), .pick (.s 83) (.s 86) (.c (.bool false)), none, [], false⟩,
     ⟨(some 88), .mv (.s 87), none, [], false⟩,
     ⟨(some 89), .mv (.s 5), (some (88, true)), [], false⟩,
     ⟨(some 90), .call (.c (.fn (.func 29) [] [])) [(.s 89)], (some (88, true)), [], false⟩,
     ⟨(some 91), .mv (.s 5), (some (88, true)), [], false⟩,
     ⟨(some 92), .call (.c (.fn (.func 38) [] [])) [(.s 90), (.s 91)], (some (88, true)), [], false⟩,
     ⟨(some 93), .pick (.s 88) (.s 92) (.c (.bool false)), none, [], false⟩,
     ⟨(some 94), .mv (.s 93), none, [], false⟩,
     ⟨(some 95), .mv (.s 1), (some (94, true)), [], false⟩,
     ⟨(some 96), .call (.c (.fn (.func 51) [] [])) [(.s 95)], (some (94, true)), [], false⟩,
     ⟨(some 97), .bin .eql .num (.s 96) (.c (.int .i64 2)), (some (94, true)), [], false⟩,
     ⟨(some 98), .pick (.s 94) (.s 97) (.c (.bool false)), none, [], false⟩,
     ⟨(some 0), .mv (.s 98), none, [], true⟩])
   .ret))))))))) }
theorem tr14 : trF Tryz.prog h14 Tryz.f14 = some i14 := by kernel_rfl

-- ashlar/ashlarlaw8.few
def h15 : List (List Nat) := [[0], [0]]
def i15 : IFn := { nparams := 1, ntmps := 5, results := [.tmp 2], body :=
  (.seq (.reg [0] [⟨(some 2), .mv (.c (.sl .nil [])), none, [], true⟩])
   (.seq (.reg [0] [⟨(some 3), .mv (.s 0), none, [], false⟩,
     ⟨(some 4), .call (.c (.fn (.func 27) [] [])) [(.s 3), (.c (.int .i64 4)), (.c (.int .i64 4)), (.c (.int .i64 2))], none, [], false⟩,
     ⟨(some 2), .mv (.s 4), none, [], true⟩])
   .ret)) }
theorem tr15 : trF Tryz.prog h15 Tryz.f15 = some i15 := by kernel_rfl

-- ashlar/ashlarlaw8.Rule
def h16 : List (List Nat) := [[0, 1], [0, 3, 5], [0, 5, 7], [0, 5, 7, 8, 9], [5], [0, 5, 7, 8], [0, 5, 7, 8, 10], [0, 5, 7, 8, 10], [0, 5, 8, 10]]
def i16 : IFn := { nparams := 2, ntmps := 38, results := [.tmp 4, .cell 5 true 3, .tmp 6], body :=
  (.seq (.reg [0, 1] [⟨(some 3), .box 2 (.s 1), none, [], false⟩,
     ⟨(some 4), .mv (.c .nilPtr), none, [], true⟩,
     ⟨(some 5), .alloc 3 (.agg [(.int .i64 0), (.bool false), (.sl .nil [])]), none, [], false⟩,
     ⟨(some 6), .mv (.c (.bool false)), none, [], true⟩])
   (.seq (.reg [0, 3, 5] [⟨(some 11), .load true 2 (.s 3), none, [], false⟩,
     ⟨(some 12), .bsl 2 (.agg [(.bool false), (.sl .nil [])]) 1 [(0, (.s 11))], none, [], false⟩,
     ⟨(some 13), .call (.c (.fn (.func 26) [] [])) [(.s 12), (.c (.int .i64 1)), (.c (.int .i64 1))], none, [], false⟩,
     ⟨(some 14), .idxA 2 (.s 13) (.c (.int .i64 0)), none, [], false⟩,
     ⟨(some 15), .load true 2 (.s 14), none, [], false⟩,
     ⟨(some 7), .alloc 2 (.agg [(.bool false), (.sl .nil [])]), none, [], false⟩,
     ⟨none, .store 2 (.s 7) (.s 15), none, [], false⟩])
   (.seq (.reg [0, 5, 7] [⟨(some 17), .mv (.s 0), none, [], false⟩,
     ⟨(some 18), .load true 2 (.s 7), none, [], false⟩,
     ⟨(some 19), .call (.c (.fn (.func 44) [] [])) [(.s 17), (.s 18)], none, [], false⟩,
     ⟨(some 16), .mv (.s 19), none, [], false⟩,
     ⟨(some 20), .extr (.s 16) 0, none, [], false⟩,
     ⟨(some 21), .extr (.s 16) 1, none, [], false⟩,
     ⟨(some 8), .mv (.s 20), none, [], true⟩,
     ⟨(some 9), .mv (.s 21), none, [], true⟩])
   (.seq (.seq (.reg [0, 5, 7, 8, 9] [⟨(some 22), .mv (.s 9), none, [], false⟩,
     ⟨(some 23), .bin .neq .num (.s 22) (.c (.int .i64 0)), none, [], false⟩,
     ⟨(some 24), .mv (.s 23), none, [], false⟩,
     ⟨(some 25), .mv (.s 8), (some (24, false)), [], false⟩,
     ⟨(some 26), .bin .eql .ptr (.s 25) (.c .nilPtr), (some (24, false)), [], false⟩,
     ⟨(some 27), .pick (.s 24) (.c (.bool true)) (.s 26), none, [], false⟩])
   (.cond (.s 27)
    (.seq (.reg [5] [⟨(some 28), .build [(.int .i64 0), (.bool false), (.sl .nil [])] [], none, [], false⟩,
      ⟨(some 4), .mv (.c .nilPtr), none, [], true⟩,
      ⟨none, .store 3 (.s 5) (.s 28), none, [], false⟩,
      ⟨(some 6), .mv (.c (.bool false)), none, [], true⟩])
    .ret)
    .skip))
   (.seq (.reg [0, 5, 7, 8] [⟨(some 29), .call (.c (.fn (.func 22) [] [])) [(.c (.int .i64 0))], none, [], false⟩,
     ⟨(some 10), .alloc 2 (.agg [(.bool false), (.sl .nil [])]), none, [], false⟩,
     ⟨none, .store 2 (.s 10) (.s 29), none, [], false⟩])
   (.seq (.seq (.reg [0, 5, 7, 8, 10] [⟨(some 30), .mv (.s 0), none, [], false⟩,
     ⟨(some 31), .bin .eql .num (.s 30) (.c (.int .i64 3)), none, [], false⟩])
   (.cond (.s 31)
    (.reg [0, 5, 7, 8, 10] [⟨(some 32), .load true 2 (.s 7), none, [], false⟩,
      ⟨(some 33), .call (.c (.fn (.func 43) [] [])) [(.s 32)], none, [], false⟩,
      ⟨none, .store 2 (.s 10) (.s 33), none, [], false⟩])
    .skip))
   (.seq (.draw [0, 5, 8, 10] [⟨(some 34), .mv (.s 8), none, [], false⟩,
     ⟨(some 35), .mv (.s 0), none, [], false⟩,
     ⟨(some 36), .load true 2 (.s 10), none, [], false⟩,
     ⟨(some 37), .build [(.int .i64 0), (.bool false), (.sl .nil [])] [(0, 1, (.s 35)), (1, 2, (.s 36))], none, [1, 2], false⟩,
     ⟨(some 4), .mv (.s 34), none, [0], true⟩,
     ⟨none, .store 3 (.s 5) (.s 37), none, [3, 4, 0, 1, 2], false⟩,
     ⟨(some 6), .mv (.c (.bool true)), none, [5, 0, 1, 2, 3, 4], true⟩])
   .ret))))))) }
theorem tr16 : trF Tryz.prog h16 Tryz.f16 = some i16 := by kernel_rfl

-- ashlar/ashlarref8.From
def h17 : List (List Nat) := [[0], [0], [0, 3], [0, 3, 4], [0, 3, 4], [0, 3, 4], [0, 3, 4], [3]]
def i17 : IFn := { nparams := 1, ntmps := 21, results := [.tmp 2], body :=
  (.seq (.reg [0] [⟨(some 2), .mv (.c (.sl .nil [])), none, [], true⟩])
   (.seq (.reg [0] [⟨(some 3), .mv (.c (.sl .nil [])), none, [], true⟩])
   (.seq (.seq (.reg [0, 3] [⟨(some 4), .mv (.c (.int .i64 0)), none, [], true⟩])
   (.block 0
    (.loop [0, 3, 4]
     (.seq (.seq (.reg [0, 3, 4] [⟨(some 5), .mv (.s 4), none, [], false⟩,
       ⟨(some 6), .mv (.s 0), none, [], false⟩,
       ⟨(some 7), .len false (.s 6), none, [], false⟩,
       ⟨(some 8), .bin .lss .num (.s 5) (.s 7), none, [], false⟩])
     (.cond (.s 8)
      .skip
      (.exit 0)))
     (.seq (.block 1
      (.reg [0, 3, 4] [⟨(some 11), .mv (.s 3), none, [], false⟩,
        ⟨(some 12), .mv (.s 0), none, [], false⟩,
        ⟨(some 13), .mv (.s 4), none, [], false⟩,
        ⟨(some 14), .idxA 1 (.s 12) (.s 13), none, [], false⟩,
        ⟨(some 15), .load false 1 (.s 14), none, [], false⟩,
        ⟨(some 16), .call (.c (.fn (.func 25) [] [])) [(.s 15)], none, [], false⟩,
        ⟨(some 17), .bsl 1 (.sl .nil []) 1 [(0, (.s 16))], none, [], false⟩,
        ⟨(some 18), .app 1 24 (.s 11) (.s 17), none, [], false⟩,
        ⟨(some 3), .mv (.s 18), none, [], true⟩]))
     (.reg [0, 3, 4] [⟨(some 9), .mv (.s 4), none, [], false⟩,
       ⟨(some 10), .bin .add .num (.s 9) (.c (.int .i64 1)), none, [], false⟩,
       ⟨(some 4), .mv (.s 10), none, [], true⟩]))))))
   (.seq (.reg [3] [⟨(some 19), .mv (.s 3), none, [], false⟩,
     ⟨(some 20), .call (.c (.fn (.func 70) [] [])) [(.s 19)], none, [], false⟩,
     ⟨(some 2), .mv (.s 20), none, [], true⟩])
   .ret)))) }
theorem tr17 : trF Tryz.prog h17 Tryz.f17 = some i17 := by kernel_rfl

-- (*ashlar/ore.Rule).Mul
def h18 : List (List Nat) := [[0, 1, 2], [0, 1, 2], [], [0, 1, 2], [], [0, 1, 2]]
def i18 : IFn := { nparams := 3, ntmps := 27, results := [.tmp 6, .tmp 7], body :=
  (.seq (.reg [0, 1, 2] [⟨(some 6), .mv (.c (.sl .nil [])), none, [], true⟩,
     ⟨(some 7), .mv (.c (.int .i64 0)), none, [], true⟩])
   (.seq (.block 0
    (.seq (.reg [0, 1, 2] [⟨(some 9), .mv (.s 0), none, [], false⟩,
      ⟨(some 10), .bin .eql .ptr (.s 9) (.c .nilPtr), none, [], false⟩,
      ⟨(some 8), .mv (.s 10), none, [], true⟩])
    (.cond (.s 8)
     (.seq (.reg [] [⟨(some 6), .mv (.c (.sl .nil [])), none, [], true⟩,
       ⟨(some 7), .mv (.c (.int .i64 1)), none, [], true⟩])
     .ret)
     (.seq (.reg [0, 1, 2] [⟨(some 12), .mv (.s 1), none, [], false⟩,
       ⟨(some 13), .mv (.s 2), none, [], false⟩,
       ⟨(some 14), .mv (.s 0), none, [], false⟩,
       ⟨(some 15), .nilc (.s 14), none, [], false⟩,
       ⟨(some 16), .fldA 1 true 2 (.s 15), none, [], false⟩,
       ⟨(some 17), .load true 2 (.s 16), none, [], false⟩,
       ⟨(some 18), .call (.c (.fn (.func 71) [] [])) [(.s 12), (.s 13), (.s 17)], none, [], false⟩,
       ⟨(some 19), .bin .gtr .num (.s 18) (.c (.int .i64 1048576)), none, [], false⟩,
       ⟨(some 11), .mv (.s 19), none, [], true⟩])
     (.cond (.s 11)
      (.seq (.reg [] [⟨(some 6), .mv (.c (.sl .nil [])), none, [], true⟩,
        ⟨(some 7), .mv (.c (.int .i64 4)), none, [], true⟩])
      .ret)
      .skip)))))
   (.seq (.reg [0, 1, 2] [⟨(some 20), .mv (.s 1), none, [], false⟩,
     ⟨(some 21), .mv (.s 2), none, [], false⟩,
     ⟨(some 22), .mv (.s 0), none, [], false⟩,
     ⟨(some 23), .mkfn (.func 47) [(.s 22)] [], none, [], false⟩,
     ⟨(some 24), .mv (.s 0), none, [], false⟩,
     ⟨(some 25), .mkfn (.func 49) [(.s 24)] [], none, [], false⟩,
     ⟨(some 26), .call (.c (.fn (.func 72) [] [])) [(.s 20), (.s 21), (.s 23), (.s 25)], none, [], false⟩,
     ⟨(some 6), .mv (.s 26), none, [], true⟩,
     ⟨(some 7), .mv (.c (.int .i64 0)), none, [], true⟩])
   .ret))) }
theorem tr18 : trF Tryz.prog h18 Tryz.f18 = some i18 := by kernel_rfl

-- ashlar/ashlarref9.Mul
def h19 : List (List Nat) := [[0, 1, 2], [0, 1, 5], [1, 5, 7, 8, 9], [5, 7, 8, 9, 10, 11, 12], [7, 8, 9, 10, 11, 12, 13]]
def i19 : IFn := { nparams := 3, ntmps := 53, results := [.tmp 6], body :=
  (.seq (.reg [0, 1, 2] [⟨(some 5), .box 2 (.s 2), none, [], false⟩,
     ⟨(some 6), .mv (.c (.int .i64 0)), none, [], true⟩])
   (.seq (.reg [0, 1, 5] [⟨(some 15), .mv (.s 0), none, [], false⟩,
     ⟨(some 16), .call (.c (.fn (.func 73) [] [])) [(.s 15)], none, [], false⟩,
     ⟨(some 14), .mv (.s 16), none, [], false⟩,
     ⟨(some 17), .extr (.s 14) 0, none, [], false⟩,
     ⟨(some 18), .extr (.s 14) 1, none, [], false⟩,
     ⟨(some 19), .extr (.s 14) 2, none, [], false⟩,
     ⟨(some 7), .mv (.s 17), none, [], true⟩,
     ⟨(some 8), .mv (.s 18), none, [], true⟩,
     ⟨(some 9), .mv (.s 19), none, [], true⟩])
   (.seq (.reg [1, 5, 7, 8, 9] [⟨(some 21), .mv (.s 1), none, [], false⟩,
     ⟨(some 22), .call (.c (.fn (.func 73) [] [])) [(.s 21)], none, [], false⟩,
     ⟨(some 20), .mv (.s 22), none, [], false⟩,
     ⟨(some 23), .extr (.s 20) 0, none, [], false⟩,
     ⟨(some 24), .extr (.s 20) 1, none, [], false⟩,
     ⟨(some 25), .extr (.s 20) 2, none, [], false⟩,
     ⟨(some 10), .mv (.s 23), none, [], true⟩,
     ⟨(some 11), .mv (.s 24), none, [], true⟩,
     ⟨(some 12), .mv (.s 25), none, [], true⟩])
   (.seq (.reg [5, 7, 8, 9, 10, 11, 12] [⟨(some 26), .load true 2 (.s 5), none, [], false⟩,
     ⟨(some 27), .call (.c (.fn (.func 74) [] [])) [(.s 26)], none, [], false⟩,
     ⟨(some 13), .mv (.s 27), none, [], true⟩])
   (.seq (.reg [7, 8, 9, 10, 11, 12, 13] [⟨(some 28), .mv (.s 7), none, [], false⟩,
     ⟨(some 29), .bin .add .num (.s 28) (.c (.int .i64 1)), none, [], false⟩,
     ⟨(some 30), .mv (.s 10), none, [], false⟩,
     ⟨(some 31), .bin .add .num (.s 30) (.c (.int .i64 1)), none, [], false⟩,
     ⟨(some 32), .mv (.s 8), none, [], false⟩,
     ⟨(some 33), .mv (.s 11), none, [], false⟩,
     ⟨(some 34), .bin .add .num (.s 32) (.s 33), none, [], false⟩,
     ⟨(some 35), .bin .add .num (.s 34) (.c (.int .i64 2)), none, [], false⟩,
     ⟨(some 36), .mv (.s 9), none, [], false⟩,
     ⟨(some 37), .mv (.s 12), none, [], false⟩,
     ⟨(some 38), .mv (.s 7), none, [], false⟩,
     ⟨(some 39), .bin .add .num (.s 38) (.c (.int .i64 1)), none, [], false⟩,
     ⟨(some 40), .mv (.s 11), none, [], false⟩,
     ⟨(some 41), .bin .add .num (.s 40) (.c (.int .i64 1)), none, [], false⟩,
     ⟨(some 42), .call (.c (.fn (.func 77) [] [])) [(.s 39), (.s 41)], none, [], false⟩,
     ⟨(some 43), .mv (.s 7), none, [], false⟩,
     ⟨(some 44), .mv (.s 11), none, [], false⟩,
     ⟨(some 45), .bin .add .num (.s 44) (.c (.int .i64 1)), none, [], false⟩,
     ⟨(some 46), .call (.c (.fn (.func 77) [] [])) [(.s 43), (.s 45)], none, [], false⟩,
     ⟨(some 47), .mv (.s 13), none, [], false⟩,
     ⟨(some 48), .call (.c (.fn (.func 77) [] [])) [(.s 46), (.s 47)], none, [], false⟩,
     ⟨(some 49), .bsl 1 (.int .i64 0) 5 [(0, (.s 36)), (1, (.s 37)), (2, (.s 42)), (3, (.s 48)), (4, (.c (.int .i64 8)))], none, [], false⟩,
     ⟨(some 50), .call (.c (.fn (.func 76) [] [])) [(.s 49)], none, [], false⟩,
     ⟨(some 51), .bsl 1 (.int .i64 0) 4 [(0, (.s 29)), (1, (.s 31)), (2, (.s 35)), (3, (.s 50))], none, [], false⟩,
     ⟨(some 52), .call (.c (.fn (.func 75) [] [])) [(.s 51)], none, [], false⟩,
     ⟨(some 6), .mv (.s 52), none, [], true⟩])
   .ret))))) }
theorem tr19 : trF Tryz.prog h19 Tryz.f19 = some i19 := by kernel_rfl

-- ashlar/ashlarref8.Is
def h20 : List (List Nat) := [[0, 1], [0, 1], [], [0, 1], [0, 1, 5], [0, 1, 5], [0, 1, 5], [0, 1, 5, 6], [], [0, 1, 5], []]
def i20 : IFn := { nparams := 2, ntmps := 29, results := [.tmp 4], body :=
  (.seq (.reg [0, 1] [⟨(some 4), .mv (.c (.bool false)), none, [], true⟩])
   (.seq (.seq (.reg [0, 1] [⟨(some 7), .mv (.s 0), none, [], false⟩,
     ⟨(some 8), .len false (.s 7), none, [], false⟩,
     ⟨(some 9), .mv (.s 1), none, [], false⟩,
     ⟨(some 10), .len false (.s 9), none, [], false⟩,
     ⟨(some 11), .bin .neq .num (.s 8) (.s 10), none, [], false⟩])
   (.cond (.s 11)
    (.seq (.reg [] [⟨(some 4), .mv (.c (.bool false)), none, [], true⟩])
    .ret)
    .skip))
   (.seq (.seq (.reg [0, 1] [⟨(some 5), .mv (.c (.int .i64 0)), none, [], true⟩])
   (.block 0
    (.loop [0, 1, 5]
     (.seq (.seq (.reg [0, 1, 5] [⟨(some 12), .mv (.s 5), none, [], false⟩,
       ⟨(some 13), .mv (.s 0), none, [], false⟩,
       ⟨(some 14), .len false (.s 13), none, [], false⟩,
       ⟨(some 15), .bin .lss .num (.s 12) (.s 14), none, [], false⟩])
     (.cond (.s 15)
      .skip
      (.exit 0)))
     (.seq (.block 1
      (.seq (.draw [0, 1, 5] [⟨(some 18), .mv (.s 0), none, [], false⟩,
        ⟨(some 19), .mv (.s 5), none, [], false⟩,
        ⟨(some 20), .idxA 1 (.s 18) (.s 19), none, [0, 1], false⟩,
        ⟨(some 21), .load false 1 (.s 20), none, [2], false⟩,
        ⟨(some 22), .mv (.s 1), none, [], false⟩,
        ⟨(some 23), .mv (.s 5), none, [], false⟩,
        ⟨(some 24), .idxA 1 (.s 22) (.s 23), none, [4, 5], false⟩,
        ⟨(some 25), .load false 1 (.s 24), none, [6], false⟩,
        ⟨(some 26), .call (.c (.fn (.func 30) [] [])) [(.s 21), (.s 25)], none, [3, 7], false⟩,
        ⟨(some 6), .mv (.s 26), none, [8, 0, 1, 2, 3, 4, 5, 6, 7], true⟩])
      (.seq (.reg [0, 1, 5, 6] [⟨(some 27), .mv (.s 6), none, [], false⟩,
        ⟨(some 28), .un .not (.s 27), none, [], false⟩])
      (.cond (.s 28)
       (.seq (.reg [] [⟨(some 4), .mv (.c (.bool false)), none, [], true⟩])
       .ret)
       .skip))))
     (.reg [0, 1, 5] [⟨(some 16), .mv (.s 5), none, [], false⟩,
       ⟨(some 17), .bin .add .num (.s 16) (.c (.int .i64 1)), none, [], false⟩,
       ⟨(some 5), .mv (.s 17), none, [], true⟩]))))))
   (.seq (.reg [] [⟨(some 4), .mv (.c (.bool true)), none, [], true⟩])
   .ret)))) }
theorem tr20 : trF Tryz.prog h20 Tryz.f20 = some i20 := by kernel_rfl

-- (ashlar/ashlarref8.Rule).Mul
def h21 : List (List Nat) := [[0, 1, 2], [1, 2, 3], [1, 2, 3, 7], [1, 2, 3, 7, 8], [1, 2, 3, 7, 8], [1, 2, 3, 7, 8], [1, 2, 3, 7, 8], [1, 2, 3, 7, 8], [1, 2, 3, 7, 8], [7]]
def i21 : IFn := { nparams := 3, ntmps := 29, results := [.tmp 6], body :=
  (.seq (.reg [0, 1, 2] [⟨(some 3), .box 3 (.s 0), none, [], false⟩,
     ⟨(some 6), .mv (.c (.sl .nil [])), none, [], true⟩])
   (.seq (.reg [1, 2, 3] [⟨(some 7), .mv (.c (.sl .nil [])), none, [], true⟩])
   (.seq (.seq (.reg [1, 2, 3, 7] [⟨(some 8), .mv (.c (.int .i64 0)), none, [], true⟩])
   (.block 0
    (.loop [1, 2, 3, 7, 8]
     (.seq (.seq (.reg [1, 2, 3, 7, 8] [⟨(some 9), .mv (.s 8), none, [], false⟩,
       ⟨(some 10), .mv (.s 1), none, [], false⟩,
       ⟨(some 11), .len false (.s 10), none, [], false⟩,
       ⟨(some 12), .bin .lss .num (.s 9) (.s 11), none, [], false⟩])
     (.cond (.s 12)
      .skip
      (.exit 0)))
     (.seq (.block 1
      (.seq (.seq (.reg [1, 2, 3, 7, 8] [⟨(some 15), .mv (.s 8), none, [], false⟩,
        ⟨(some 16), .bin .gtr .num (.s 15) (.c (.int .i64 0)), none, [], false⟩])
      (.cond (.s 16)
       (.reg [1, 2, 3, 7, 8] [⟨(some 17), .load true 3 (.s 3), none, [], false⟩,
         ⟨(some 18), .mv (.s 2), none, [], false⟩,
         ⟨(some 19), .call (.c (.fn (.func 78) [] [])) [(.s 17), (.s 18)], none, [], false⟩,
         ⟨(some 2), .mv (.s 19), none, [], true⟩])
       .skip))
      (.reg [1, 2, 3, 7, 8] [⟨(some 20), .mv (.s 7), none, [], false⟩,
        ⟨(some 21), .mv (.s 1), none, [], false⟩,
        ⟨(some 22), .mv (.s 8), none, [], false⟩,
        ⟨(some 23), .idxA 1 (.s 21) (.s 22), none, [], false⟩,
        ⟨(some 24), .load false 1 (.s 23), none, [], false⟩,
        ⟨(some 25), .mv (.s 2), none, [], false⟩,
        ⟨(some 26), .call (.c (.fn (.func 24) [] [])) [(.s 24), (.s 25)], none, [], false⟩,
        ⟨(some 27), .call (.c (.fn (.func 56) [] [])) [(.s 20), (.s 26)], none, [], false⟩,
        ⟨(some 7), .mv (.s 27), none, [], true⟩])))
     (.reg [1, 2, 3, 7, 8] [⟨(some 13), .mv (.s 8), none, [], false⟩,
       ⟨(some 14), .bin .add .num (.s 13) (.c (.int .i64 1)), none, [], false⟩,
       ⟨(some 8), .mv (.s 14), none, [], true⟩]))))))
   (.seq (.reg [7] [⟨(some 28), .mv (.s 7), none, [], false⟩,
     ⟨(some 6), .mv (.s 28), none, [], true⟩])
   .ret)))) }
theorem tr21 : trF Tryz.prog h21 Tryz.f21 = some i21 := by kernel_rfl

-- ashlar/ashlarref1.Of
def h22 : List (List Nat) := [[0], [0, 2], [0, 2, 3], [0, 2, 3, 4], [0, 2, 3, 4], [0, 2, 3, 4], [0, 2, 3, 4, 5], [0, 2, 3, 4, 5], [0, 2, 3, 4, 5], [0, 2, 3, 4, 5], [2, 3, 4]]
def i22 : IFn := { nparams := 1, ntmps := 25, results := [.cell 2 true 2], body :=
  (.seq (.reg [0] [⟨(some 2), .alloc 2 (.agg [(.bool false), (.sl .nil [])]), none, [], false⟩])
   (.seq (.reg [0, 2] [⟨(some 6), .mv (.s 0), none, [], false⟩,
     ⟨(some 7), .bin .lss .num (.s 6) (.c (.int .i64 0)), none, [], false⟩,
     ⟨(some 3), .mv (.s 7), none, [], true⟩])
   (.seq (.reg [0, 2, 3] [⟨(some 4), .mv (.c (.sl .nil [])), none, [], true⟩])
   (.seq (.block 0
    (.loop [0, 2, 3, 4]
     (.seq (.seq (.reg [0, 2, 3, 4] [⟨(some 8), .mv (.s 0), none, [], false⟩,
       ⟨(some 9), .bin .neq .num (.s 8) (.c (.int .i64 0)), none, [], false⟩])
     (.cond (.s 9)
      .skip
      (.exit 0)))
     (.block 1
      (.seq (.reg [0, 2, 3, 4] [⟨(some 10), .mv (.s 0), none, [], false⟩,
        ⟨(some 11), .bin .rem .num (.s 10) (.c (.int .i64 65536)), none, [], false⟩,
        ⟨(some 5), .mv (.s 11), none, [], true⟩])
      (.seq (.reg [0, 2, 3, 4, 5] [⟨(some 12), .mv (.s 0), none, [], false⟩,
        ⟨(some 13), .bin .quo .num (.s 12) (.c (.int .i64 65536)), none, [], false⟩,
        ⟨(some 0), .mv (.s 13), none, [], true⟩])
      (.seq (.seq (.reg [0, 2, 3, 4, 5] [⟨(some 14), .mv (.s 5), none, [], false⟩,
        ⟨(some 15), .bin .lss .num (.s 14) (.c (.int .i64 0)), none, [], false⟩])
      (.cond (.s 15)
       (.reg [0, 2, 3, 4, 5] [⟨(some 16), .mv (.s 5), none, [], false⟩,
         ⟨(some 17), .un .neg (.s 16), none, [], false⟩,
         ⟨(some 5), .mv (.s 17), none, [], true⟩])
       .skip))
      (.reg [0, 2, 3, 4, 5] [⟨(some 18), .mv (.s 4), none, [], false⟩,
        ⟨(some 19), .mv (.s 5), none, [], false⟩,
        ⟨(some 20), .bsl 1 (.int .i64 0) 1 [(0, (.s 19))], none, [], false⟩,
        ⟨(some 21), .app 1 8 (.s 18) (.s 20), none, [], false⟩,
        ⟨(some 4), .mv (.s 21), none, [], true⟩]))))))))
   (.seq (.reg [2, 3, 4] [⟨(some 22), .mv (.s 3), none, [], false⟩,
     ⟨(some 23), .mv (.s 4), none, [], false⟩,
     ⟨(some 24), .call (.c (.fn (.func 79) [] [])) [(.s 22), (.s 23)], none, [], false⟩,
     ⟨none, .store 2 (.s 2) (.s 24), none, [], false⟩])
   .ret))))) }
theorem tr22 : trF Tryz.prog h22 Tryz.f22 = some i22 := by kernel_rfl

-- ashlar/ashlarref8.To
def h23 : List (List Nat) := [[0], [0], [0, 3], [0, 3, 4], [0, 3, 4], [0, 3, 4], [0, 3, 4], [3]]
def i23 : IFn := { nparams := 1, ntmps := 20, results := [.tmp 2], body :=
  (.seq (.reg [0] [⟨(some 2), .mv (.c (.sl .nil [])), none, [], true⟩])
   (.seq (.reg [0] [⟨(some 3), .mv (.c (.sl .nil [])), none, [], true⟩])
   (.seq (.seq (.reg [0, 3] [⟨(some 4), .mv (.c (.int .i64 0)), none, [], true⟩])
   (.block 0
    (.loop [0, 3, 4]
     (.seq (.seq (.reg [0, 3, 4] [⟨(some 5), .mv (.s 4), none, [], false⟩,
       ⟨(some 6), .mv (.s 0), none, [], false⟩,
       ⟨(some 7), .len false (.s 6), none, [], false⟩,
       ⟨(some 8), .bin .lss .num (.s 5) (.s 7), none, [], false⟩])
     (.cond (.s 8)
      .skip
      (.exit 0)))
     (.seq (.block 1
      (.reg [0, 3, 4] [⟨(some 11), .mv (.s 3), none, [], false⟩,
        ⟨(some 12), .mv (.s 0), none, [], false⟩,
        ⟨(some 13), .mv (.s 4), none, [], false⟩,
        ⟨(some 14), .idxA 1 (.s 12) (.s 13), none, [], false⟩,
        ⟨(some 15), .load false 1 (.s 14), none, [], false⟩,
        ⟨(some 16), .call (.c (.fn (.func 41) [] [])) [(.s 15)], none, [], false⟩,
        ⟨(some 17), .bsl 1 (.sl .nil []) 1 [(0, (.s 16))], none, [], false⟩,
        ⟨(some 18), .app 1 24 (.s 11) (.s 17), none, [], false⟩,
        ⟨(some 3), .mv (.s 18), none, [], true⟩]))
     (.reg [0, 3, 4] [⟨(some 9), .mv (.s 4), none, [], false⟩,
       ⟨(some 10), .bin .add .num (.s 9) (.c (.int .i64 1)), none, [], false⟩,
       ⟨(some 4), .mv (.s 10), none, [], true⟩]))))))
   (.seq (.reg [3] [⟨(some 19), .mv (.s 3), none, [], false⟩,
     ⟨(some 2), .mv (.s 19), none, [], true⟩])
   .ret)))) }
theorem tr23 : trF Tryz.prog h23 Tryz.f23 = some i23 := by kernel_rfl

-- ashlar/ashlarref8.Scale
def h24 : List (List Nat) := [[0, 1], [0, 1], [0, 1, 5], [0, 1, 5, 6], [0, 1, 5, 6], [0, 1, 5, 6], [0, 1, 5, 6], [5]]
def i24 : IFn := { nparams := 2, ntmps := 24, results := [.tmp 4], body :=
  (.seq (.reg [0, 1] [⟨(some 4), .mv (.c (.sl .nil [])), none, [], true⟩])
   (.seq (.reg [0, 1] [⟨(some 5), .mv (.c (.sl .nil [])), none, [], true⟩])
   (.seq (.seq (.reg [0, 1, 5] [⟨(some 6), .mv (.c (.int .i64 0)), none, [], true⟩])
   (.block 0
    (.loop [0, 1, 5, 6]
     (.seq (.seq (.reg [0, 1, 5, 6] [⟨(some 7), .mv (.s 6), none, [], false⟩,
       ⟨(some 8), .mv (.s 1), none, [], false⟩,
       ⟨(some 9), .len false (.s 8), none, [], false⟩,
       ⟨(some 10), .bin .lss .num (.s 7) (.s 9), none, [], false⟩])
     (.cond (.s 10)
      .skip
      (.exit 0)))
     (.seq (.block 1
      (.reg [0, 1, 5, 6] [⟨(some 13), .mv (.s 5), none, [], false⟩,
        ⟨(some 14), .mv (.s 0), none, [], false⟩,
        ⟨(some 15), .mv (.s 1), none, [], false⟩,
        ⟨(some 16), .mv (.s 6), none, [], false⟩,
        ⟨(some 17), .idxA 1 (.s 15) (.s 16), none, [], false⟩,
        ⟨(some 18), .load false 1 (.s 17), none, [], false⟩,
        ⟨(some 19), .call (.c (.fn (.func 42) [] [])) [(.s 14), (.s 18)], none, [], false⟩,
        ⟨(some 20), .bsl 1 (.sl .nil []) 1 [(0, (.s 19))], none, [], false⟩,
        ⟨(some 21), .app 1 24 (.s 13) (.s 20), none, [], false⟩,
        ⟨(some 5), .mv (.s 21), none, [], true⟩]))
     (.reg [0, 1, 5, 6] [⟨(some 11), .mv (.s 6), none, [], false⟩,
       ⟨(some 12), .bin .add .num (.s 11) (.c (.int .i64 1)), none, [], false⟩,
       ⟨(some 6), .mv (.s 12), none, [], true⟩]))))))
   (.seq (.reg [5] [⟨(some 22), .mv (.s 5), none, [], false⟩,
     ⟨(some 23), .call (.c (.fn (.func 70) [] [])) [(.s 22)], none, [], false⟩,
     ⟨(some 4), .mv (.s 23), none, [], true⟩])
   .ret)))) }
theorem tr24 : trF Tryz.prog h24 Tryz.f24 = some i24 := by kernel_rfl

-- ashlar/ashlarref3.From
def h25 : List (List Nat) := [[0], [0], [0, 3], [0, 3, 4], [0, 3, 4], [0, 3, 4], [0, 3, 4], [3]]
def i25 : IFn := { nparams := 1, ntmps := 21, results := [.tmp 2], body :=
  (.seq (.reg [0] [⟨(some 2), .mv (.c (.sl .nil [])), none, [], true⟩])
   (.seq (.reg [0] [⟨(some 3), .mv (.c (.sl .nil [])), none, [], true⟩])
   (.seq (.seq (.reg [0, 3] [⟨(some 4), .mv (.c (.int .i64 0)), none, [], true⟩])
   (.block 0
    (.loop [0, 3, 4]
     (.seq (.seq (.reg [0, 3, 4] [⟨(some 5), .mv (.s 4), none, [], false⟩,
       ⟨(some 6), .mv (.s 0), none, [], false⟩,
       ⟨(some 7), .len false (.s 6), none, [], false⟩,
       ⟨(some 8), .bin .lss .num (.s 5) (.s 7), none, [], false⟩])
     (.cond (.s 8)
      .skip
      (.exit 0)))
     (.seq (.block 1
      (.reg [0, 3, 4] [⟨(some 11), .mv (.s 3), none, [], false⟩,
        ⟨(some 12), .mv (.s 0), none, [], false⟩,
        ⟨(some 13), .mv (.s 4), none, [], false⟩,
        ⟨(some 14), .idxA 2 (.s 12) (.s 13), none, [], false⟩,
        ⟨(some 15), .load true 2 (.s 14), none, [], false⟩,
        ⟨(some 16), .call (.c (.fn (.func 43) [] [])) [(.s 15)], none, [], false⟩,
        ⟨(some 17), .bsl 2 (.agg [(.bool false), (.sl .nil [])]) 1 [(0, (.s 16))], none, [], false⟩,
        ⟨(some 18), .app 2 32 (.s 11) (.s 17), none, [], false⟩,
        ⟨(some 3), .mv (.s 18), none, [], true⟩]))
     (.reg [0, 3, 4] [⟨(some 9), .mv (.s 4), none, [], false⟩,
       ⟨(some 10), .bin .add .num (.s 9) (.c (.int .i64 1)), none, [], false⟩,
       ⟨(some 4), .mv (.s 10), none, [], true⟩]))))))
   (.seq (.reg [3] [⟨(some 19), .mv (.s 3), none, [], false⟩,
     ⟨(some 20), .call (.c (.fn (.func 80) [] [])) [(.s 19)], none, [], false⟩,
     ⟨(some 2), .mv (.s 20), none, [], true⟩])
   .ret)))) }
theorem tr25 : trF Tryz.prog h25 Tryz.f25 = some i25 := by kernel_rfl

-- ashlar/ashlarlaw3.Cut
def h26 : List (List Nat) := [[0, 1, 2], [0, 1, 2], [0, 1, 2, 7], [0, 1, 2, 7, 8], [0, 1, 2, 7, 8], [0, 1, 2, 7, 8], [0, 1, 2, 7, 8, 9], [0, 1, 2, 7, 8, 9], [0, 1, 2, 7, 8, 9], [0, 1, 2, 7, 8], [7]]
def i26 : IFn := { nparams := 3, ntmps := 41, results := [.tmp 6], body :=
  (.seq (.reg [0, 1, 2] [⟨(some 6), .mv (.c (.sl .nil [])), none, [], true⟩])
   (.seq (.reg [0, 1, 2] [⟨(some 7), .mv (.c (.sl .nil [])), none, [], true⟩])
   (.seq (.seq (.reg [0, 1, 2, 7] [⟨(some 8), .mv (.c (.int .i64 0)), none, [], true⟩])
   (.block 0
    (.loop [0, 1, 2, 7, 8]
     (.seq (.seq (.reg [0, 1, 2, 7, 8] [⟨(some 10), .mv (.s 8), none, [], false⟩,
       ⟨(some 11), .mv (.s 0), none, [], false⟩,
       ⟨(some 12), .len false (.s 11), none, [], false⟩,
       ⟨(some 13), .bin .lss .num (.s 10) (.s 12), none, [], false⟩,
       ⟨(some 14), .mv (.s 13), none, [], false⟩,
       ⟨(some 15), .mv (.s 8), (some (14, true)), [], false⟩,
       ⟨(some 16), .mv (.s 1), (some (14, true)), [], false⟩,
       ⟨(some 17), .bin .lss .num (.s 15) (.s 16), (some (14, true)), [], false⟩,
       ⟨(some 18), .pick (.s 14) (.s 17) (.c (.bool false)), none, [], false⟩])
     (.cond (.s 18)
      .skip
      (.exit 0)))
     (.seq (.block 1
      (.seq (.reg [0, 1, 2, 7, 8] [⟨(some 21), .mv (.s 0), none, [], false⟩,
        ⟨(some 22), .mv (.s 8), none, [], false⟩,
        ⟨(some 23), .idxA 2 (.s 21) (.s 22), none, [], false⟩,
        ⟨(some 24), .load true 2 (.s 23), none, [], false⟩,
        ⟨(some 25), .call (.c (.fn (.func 81) [] [])) [(.s 24)], none, [], false⟩,
        ⟨(some 9), .alloc 2 (.agg [(.bool false), (.sl .nil [])]), none, [], false⟩,
        ⟨none, .store 2 (.s 9) (.s 25), none, [], false⟩])
      (.seq (.seq (.reg [0, 1, 2, 7, 8, 9] [⟨(some 26), .fldA 1 false 1 (.s 9), none, [], false⟩,
        ⟨(some 27), .load false 1 (.s 26), none, [], false⟩,
        ⟨(some 28), .len false (.s 27), none, [], false⟩,
        ⟨(some 29), .mv (.s 2), none, [], false⟩,
        ⟨(some 30), .bin .gtr .num (.s 28) (.s 29), none, [], false⟩])
      (.cond (.s 30)
       (.reg [0, 1, 2, 7, 8, 9] [⟨(some 31), .fldA 1 false 1 (.s 9), none, [], false⟩,
         ⟨(some 32), .load false 1 (.s 31), none, [], false⟩,
         ⟨(some 33), .mv (.s 2), none, [], false⟩,
         ⟨(some 34), .slice 1 (.s 32) none (some (.s 33)) none, none, [], false⟩,
         ⟨(some 35), .fldA 1 false 1 (.s 9), none, [], false⟩,
         ⟨none, .store 1 (.s 35) (.s 34), none, [], false⟩])
       .skip))
      (.reg [0, 1, 2, 7, 8, 9] [⟨(some 36), .mv (.s 7), none, [], false⟩,
        ⟨(some 37), .load true 2 (.s 9), none, [], false⟩,
        ⟨(some 38), .bsl 2 (.agg [(.bool false), (.sl .nil [])]) 1 [(0, (.s 37))], none, [], false⟩,
        ⟨(some 39), .app 2 32 (.s 36) (.s 38), none, [], false⟩,
        ⟨(some 7), .mv (.s 39), none, [], true⟩]))))
     (.reg [0, 1, 2, 7, 8] [⟨(some 19), .mv (.s 8), none, [], false⟩,
       ⟨(some 20), .bin .add .num (.s 19) (.c (.int .i64 1)), none, [], false⟩,
       ⟨(some 8), .mv (.s 20), none, [], true⟩]))))))
   (.seq (.reg [7] [⟨(some 40), .mv (.s 7), none, [], false⟩,
     ⟨(some 6), .mv (.s 40), none, [], true⟩])
   .ret)))) }
theorem tr26 : trF Tryz.prog h26 Tryz.f26 = some i26 := by kernel_rfl

-- ashlar/ashlarlaw8.Cut
def h27 : List (List Nat) := [[0, 1, 2, 3], [0, 1, 2, 3], [0, 1, 2, 3, 9], [0, 1, 2, 3, 9, 10], [0, 1, 2, 3, 9, 10], [0, 1, 2, 3, 9, 10], [0, 1, 2, 3, 9, 10], [9]]
def i27 : IFn := { nparams := 4, ntmps := 33, results := [.tmp 8], body :=
  (.seq (.reg [0, 1, 2, 3] [⟨(some 8), .mv (.c (.sl .nil [])), none, [], true⟩])
   (.seq (.reg [0, 1, 2, 3] [⟨(some 9), .mv (.c (.sl .nil [])), none, [], true⟩])
   (.seq (.seq (.reg [0, 1, 2, 3, 9] [⟨(some 10), .mv (.c (.int .i64 0)), none, [], true⟩])
   (.block 0
    (.loop [0, 1, 2, 3, 9, 10]
     (.seq (.seq (.reg [0, 1, 2, 3, 9, 10] [⟨(some 11), .mv (.s 10), none, [], false⟩,
       ⟨(some 12), .mv (.s 0), none, [], false⟩,
       ⟨(some 13), .len false (.s 12), none, [], false⟩,
       ⟨(some 14), .bin .lss .num (.s 11) (.s 13), none, [], false⟩,
       ⟨(some 15), .mv (.s 14), none, [], false⟩,
       ⟨(some 16), .mv (.s 10), (some (15, true)), [], false⟩,
       ⟨(some 17), .mv (.s 1), (some (15, true)), [], false⟩,
       ⟨(some 18), .bin .leq .num (.s 16) (.s 17), (some (15, true)), [], false⟩,
       ⟨(some 19), .pick (.s 15) (.s 18) (.c (.bool false)), none, [], false⟩])
     (.cond (.s 19)
      .skip
      (.exit 0)))
     (.seq (.block 1
      (.reg [0, 1, 2, 3, 9, 10] [⟨(some 22), .mv (.s 9), none, [], false⟩,
        ⟨(some 23), .mv (.s 0), none, [], false⟩,
        ⟨(some 24), .mv (.s 10), none, [], false⟩,
        ⟨(some 25), .idxA 1 (.s 23) (.s 24), none, [], false⟩,
        ⟨(some 26), .load false 1 (.s 25), none, [], false⟩,
        ⟨(some 27), .mv (.s 2), none, [], false⟩,
        ⟨(some 28), .mv (.s 3), none, [], false⟩,
        ⟨(some 29), .call (.c (.fn (.func 26) [] [])) [(.s 26), (.s 27), (.s 28)], none, [], false⟩,
        ⟨(some 30), .bsl 1 (.sl .nil []) 1 [(0, (.s 29))], none, [], false⟩,
        ⟨(some 31), .app 1 24 (.s 22) (.s 30), none, [], false⟩,
        ⟨(some 9), .mv (.s 31), none, [], true⟩]))
     (.reg [0, 1, 2, 3, 9, 10] [⟨(some 20), .mv (.s 10), none, [], false⟩,
       ⟨(some 21), .bin .add .num (.s 20) (.c (.int .i64 1)), none, [], false⟩,
       ⟨(some 10), .mv (.s 21), none, [], true⟩]))))))
   (.seq (.reg [9] [⟨(some 32), .mv (.s 9), none, [], false⟩,
     ⟨(some 8), .mv (.s 32), none, [], true⟩])
   .ret)))) }
theorem tr27 : trF Tryz.prog h27 Tryz.f27 = some i27 := by kernel_rfl

-- ashlar/ore.Content
def h28 : List (List Nat) := [[0], [0], [0, 3], [3, 6, 7, 8], [3, 6, 7, 8], [3, 6, 7, 8], [3, 5, 6, 7, 8], [3, 6, 7, 8], [3]]
def i28 : IFn := { nparams := 1, ntmps := 17, results := [.tmp 2], body :=
  (.seq (.reg [0] [⟨(some 2), .mv (.c (.sl .nil [])), none, [], true⟩])
   (.seq (.reg [0] [⟨(some 3), .mv (.c (.sl .nil [])), none, [], true⟩])
   (.seq (.seq (.reg [0, 3] [⟨(some 6), .mv (.s 0), none, [], false⟩,
     ⟨(some 7), .len false (.s 6), none, [], false⟩,
     ⟨(some 8), .mv (.c (.int .i64 0)), none, [], false⟩])
   (.block 0
    (.loop [3, 6, 7, 8]
     (.seq (.reg [3, 6, 7, 8] [⟨(some 9), .bin .lss .num (.s 8) (.s 7), none, [], false⟩])
     (.seq (.cond (.s 9)
      .skip
      (.exit 0))
     (.seq (.block 1
      (.seq (.reg [3, 6, 7, 8] [⟨(some 10), .idxA 1 (.s 6) (.s 8), none, [], false⟩,
        ⟨(some 11), .load false 1 (.s 10), none, [], false⟩,
        ⟨(some 5), .mv (.s 11), none, [], true⟩])
      (.reg [3, 5, 6, 7, 8] [⟨(some 12), .mv (.s 3), none, [], false⟩,
        ⟨(some 13), .mv (.s 5), none, [], false⟩,
        ⟨(some 14), .call (.c (.fn (.func 82) [] [])) [(.s 12), (.s 13)], none, [], false⟩,
        ⟨(some 3), .mv (.s 14), none, [], true⟩])))
     (.reg [3, 6, 7, 8] [⟨(some 15), .bin .add .num (.s 8) (.c (.int .i64 1)), none, [], false⟩,
       ⟨(some 8), .mv (.s 15), none, [], false⟩])))))))
   (.seq (.reg [3] [⟨(some 16), .mv (.s 3), none, [], false⟩,
     ⟨(some 2), .mv (.s 16), none, [], true⟩])
   .ret)))) }
theorem tr28 : trF Tryz.prog h28 Tryz.f28 = some i28 := by kernel_rfl

-- ashlar/ore.Prim
def h29 : List (List Nat) := [[0], [0], [0], [], [0], [0, 3], [0, 3], [0, 3]]
def i29 : IFn := { nparams := 1, ntmps := 28, results := [.tmp 2], body :=
  (.seq (.reg [0] [⟨(some 2), .mv (.c (.sl .nil [])), none, [], true⟩])
   (.seq (.reg [0] [⟨(some 4), .mv (.s 0), none, [], false⟩,
     ⟨(some 5), .call (.c (.fn (.func 83) [] [])) [(.s 4)], none, [], false⟩,
     ⟨(some 0), .mv (.s 5), none, [], true⟩])
   (.seq (.seq (.reg [0] [⟨(some 6), .mv (.s 0), none, [], false⟩,
     ⟨(some 7), .len false (.s 6), none, [], false⟩,
     ⟨(some 8), .bin .eql .num (.s 7) (.c (.int .i64 0)), none, [], false⟩])
   (.cond (.s 8)
    (.seq (.reg [] [⟨(some 2), .mv (.c (.sl .nil [])), none, [], true⟩])
    .ret)
    .skip))
   (.seq (.reg [0] [⟨(some 9), .mv (.s 0), none, [], false⟩,
     ⟨(some 10), .call (.c (.fn (.func 28) [] [])) [(.s 9)], none, [], false⟩,
     ⟨(some 3), .mv (.s 10), none, [], true⟩])
   (.seq (.seq (.reg [0, 3] [⟨(some 11), .mv (.s 0), none, [], false⟩,
     ⟨(some 12), .mv (.s 0), none, [], false⟩,
     ⟨(some 13), .len false (.s 12), none, [], false⟩,
     ⟨(some 14), .bin .sub .num (.s 13) (.c (.int .i64 1)), none, [], false⟩,
     ⟨(some 15), .idxA 1 (.s 11) (.s 14), none, [], false⟩,
     ⟨(some 16), .load false 1 (.s 15), none, [], false⟩,
     ⟨(some 17), .call (.c (.fn (.func 85) [] [])) [(.s 16)], none, [], false⟩,
     ⟨(some 18), .call (.c (.fn (.func 84) [] [])) [(.s 17)], none, [], false⟩,
     ⟨(some 19), .bin .lss .num (.s 18) (.c (.int .i64 0)), none, [], false⟩])
   (.cond (.s 19)
    (.reg [0, 3] [⟨(some 20), .mv (.s 3), none, [], false⟩,
      ⟨(some 21), .call (.c (.fn (.func 87) [] [])) [(.c (.int .i64 (-1)))], none, [], false⟩,
      ⟨(some 22), .call (.c (.fn (.func 86) [] [])) [(.s 20), (.s 21)], none, [], false⟩,
      ⟨(some 3), .mv (.s 22), none, [], true⟩])
    .skip))
   (.seq (.reg [0, 3] [⟨(some 23), .mv (.s 0), none, [], false⟩,
     ⟨(some 24), .mv (.s 3), none, [], false⟩,
     ⟨(some 25), .build [(.sl .nil [])] [(0, 1, (.s 24))], none, [], false⟩,
     ⟨(some 26), .mkfn (.func 88) [(.s 25)] [], none, [], false⟩,
     ⟨(some 27), .call (.c (.fn (.func 39) [] [])) [(.s 23), (.s 26)], none, [], false⟩,
     ⟨(some 2), .mv (.s 27), none, [], true⟩])
   .ret)))))) }
theorem tr29 : trF Tryz.prog h29 Tryz.f29 = some i29 := by kernel_rfl

-- ashlar/ashlarref3.Is
def h30 : List (List Nat) := [[0, 1], [0, 1], [], [0, 1], [0, 1, 5], [0, 1, 5], [0, 1, 5], [0, 1, 5, 6], [], [0, 1, 5], []]
def i30 : IFn := { nparams := 2, ntmps := 29, results := [.tmp 4], body :=
  (.seq (.reg [0, 1] [⟨(some 4), .mv (.c (.bool false)), none, [], true⟩])
   (.seq (.seq (.reg [0, 1] [⟨(some 7), .mv (.s 0), none, [], false⟩,
     ⟨(some 8), .len false (.s 7), none, [], false⟩,
     ⟨(some 9), .mv (.s 1), none, [], false⟩,
     ⟨(some 10), .len false (.s 9), none, [], false⟩,
     ⟨(some 11), .bin .neq .num (.s 8) (.s 10), none, [], false⟩])
   (.cond (.s 11)
    (.seq (.reg [] [⟨(some 4), .mv (.c (.bool false)), none, [], true⟩])
    .ret)
    .skip))
   (.seq (.seq (.reg [0, 1] [⟨(some 5), .mv (.c (.int .i64 0)), none, [], true⟩])
   (.block 0
    (.loop [0, 1, 5]
     (.seq (.seq (.reg [0, 1, 5] [⟨(some 12), .mv (.s 5), none, [], false⟩,
       ⟨(some 13), .mv (.s 0), none, [], false⟩,
       ⟨(some 14), .len false (.s 13), none, [], false⟩,
       ⟨(some 15), .bin .lss .num (.s 12) (.s 14), none, [], false⟩])
     (.cond (.s 15)
      .skip
      (.exit 0)))
     (.seq (.block 1
      (.seq (.draw [0, 1, 5] [⟨(some 18), .mv (.s 0), none, [], false⟩,
        ⟨(some 19), .mv (.s 5), none, [], false⟩,
        ⟨(some 20), .idxA 2 (.s 18) (.s 19), none, [0, 1], false⟩,
        ⟨(some 21), .load true 2 (.s 20), none, [2], false⟩,
        ⟨(some 22), .mv (.s 1), none, [], false⟩,
        ⟨(some 23), .mv (.s 5), none, [], false⟩,
        ⟨(some 24), .idxA 2 (.s 22) (.s 23), none, [4, 5], false⟩,
        ⟨(some 25), .load true 2 (.s 24), none, [6], false⟩,
        ⟨(some 26), .call (.c (.fn (.func 52) [] [])) [(.s 21), (.s 25)], none, [3, 7], false⟩,
        ⟨(some 6), .mv (.s 26), none, [8, 0, 1, 2, 3, 4, 5, 6, 7], true⟩])
      (.seq (.reg [0, 1, 5, 6] [⟨(some 27), .mv (.s 6), none, [], false⟩,
        ⟨(some 28), .un .not (.s 27), none, [], false⟩])
      (.cond (.s 28)
       (.seq (.reg [] [⟨(some 4), .mv (.c (.bool false)), none, [], true⟩])
       .ret)
       .skip))))
     (.reg [0, 1, 5] [⟨(some 16), .mv (.s 5), none, [], false⟩,
       ⟨(some 17), .bin .add .num (.s 16) (.c (.int .i64 1)), none, [], false⟩,
       ⟨(some 5), .mv (.s 17), none, [], true⟩]))))))
   (.seq (.reg [] [⟨(some 4), .mv (.c (.bool true)), none, [], true⟩])
   .ret)))) }
theorem tr30 : trF Tryz.prog h30 Tryz.f30 = some i30 := by kernel_rfl

-- ashlar/ashlarref8.Content
def h31 : List (List Nat) := [[0], [0], [0, 3], [0, 3, 4], [0, 3, 4], [0, 3, 4], [0, 3, 4], [3]]
def i31 : IFn := { nparams := 1, ntmps := 18, results := [.tmp 2], body :=
  (.seq (.reg [0] [⟨(some 2), .mv (.c (.sl .nil [])), none, [], true⟩])
   (.seq (.reg [0] [⟨(some 3), .mv (.c (.sl .nil [])), none, [], true⟩])
   (.seq (.seq (.reg [0, 3] [⟨(some 4), .mv (.c (.int .i64 0)), none, [], true⟩])
   (.block 0
    (.loop [0, 3, 4]
     (.seq (.seq (.reg [0, 3, 4] [⟨(some 5), .mv (.s 4), none, [], false⟩,
       ⟨(some 6), .mv (.s 0), none, [], false⟩,
       ⟨(some 7), .len false (.s 6), none, [], false⟩,
       ⟨(some 8), .bin .lss .num (.s 5) (.s 7), none, [], false⟩])
     (.cond (.s 8)
      .skip
      (.exit 0)))
     (.seq (.block 1
      (.reg [0, 3, 4] [⟨(some 11), .mv (.s 3), none, [], false⟩,
        ⟨(some 12), .mv (.s 0), none, [], false⟩,
        ⟨(some 13), .mv (.s 4), none, [], false⟩,
        ⟨(some 14), .idxA 1 (.s 12) (.s 13), none, [], false⟩,
        ⟨(some 15), .load false 1 (.s 14), none, [], false⟩,
        ⟨(some 16), .call (.c (.fn (.func 89) [] [])) [(.s 11), (.s 15)], none, [], false⟩,
        ⟨(some 3), .mv (.s 16), none, [], true⟩]))
     (.reg [0, 3, 4] [⟨(some 9), .mv (.s 4), none, [], false⟩,
       ⟨(some 10), .bin .add .num (.s 9) (.c (.int .i64 1)), none, [], false⟩,
       ⟨(some 4), .mv (.s 10), none, [], true⟩]))))))
   (.seq (.reg [3] [⟨(some 17), .mv (.s 3), none, [], false⟩,
     ⟨(some 2), .mv (.s 17), none, [], true⟩])
   .ret)))) }
theorem tr31 : trF Tryz.prog h31 Tryz.f31 = some i31 := by kernel_rfl

-- ashlar/ashlarref8.Prim
def h32 : List (List Nat) := [[0], [0], [0, 3], [0, 3, 4], [0, 3, 4, 5], [0, 3, 4, 5], [0, 3, 4, 5], [0, 3, 4, 5, 6], [0, 3, 4, 5], [4], [4], [4]]
def i32 : IFn := { nparams := 1, ntmps := 38, results := [.tmp 2], body :=
  (.seq (.reg [0] [⟨(some 2), .mv (.c (.sl .nil [])), none, [], true⟩])
   (.seq (.reg [0] [⟨(some 8), .mv (.s 0), none, [], false⟩,
     ⟨(some 9), .call (.c (.fn (.func 31) [] [])) [(.s 8)], none, [], false⟩,
     ⟨(some 3), .mv (.s 9), none, [], true⟩])
   (.seq (.reg [0, 3] [⟨(some 4), .mv (.c (.sl .nil [])), none, [], true⟩])
   (.seq (.seq (.reg [0, 3, 4] [⟨(some 5), .mv (.c (.int .i64 0)), none, [], true⟩])
   (.block 0
    (.loop [0, 3, 4, 5]
     (.seq (.seq (.reg [0, 3, 4, 5] [⟨(some 10), .mv (.s 5), none, [], false⟩,
       ⟨(some 11), .mv (.s 0), none, [], false⟩,
       ⟨(some 12), .len false (.s 11), none, [], false⟩,
       ⟨(some 13), .bin .lss .num (.s 10) (.s 12), none, [], false⟩])
     (.cond (.s 13)
      .skip
      (.exit 0)))
     (.seq (.block 1
      (.seq (.reg [0, 3, 4, 5] [⟨(some 17), .mv (.s 0), none, [], false⟩,
        ⟨(some 18), .mv (.s 5), none, [], false⟩,
        ⟨(some 19), .idxA 1 (.s 17) (.s 18), none, [], false⟩,
        ⟨(some 20), .load false 1 (.s 19), none, [], false⟩,
        ⟨(some 21), .mv (.s 3), none, [], false⟩,
        ⟨(some 22), .call (.c (.fn (.func 90) [] [])) [(.s 20), (.s 21)], none, [], false⟩,
        ⟨(some 16), .mv (.s 22), none, [], false⟩,
        ⟨(some 23), .extr (.s 16) 0, none, [], false⟩,
        ⟨(some 24), .extr (.s 16) 1, none, [], false⟩,
        ⟨(some 6), .mv (.s 23), none, [], true⟩,
        ⟨(some 7), .mv (.s 24), none, [], true⟩])
      (.reg [0, 3, 4, 5, 6] [⟨(some 25), .mv (.s 4), none, [], false⟩,
        ⟨(some 26), .mv (.s 6), none, [], false⟩,
        ⟨(some 27), .bsl 1 (.sl .nil []) 1 [(0, (.s 26))], none, [], false⟩,
        ⟨(some 28), .app 1 24 (.s 25) (.s 27), none, [], false⟩,
        ⟨(some 4), .mv (.s 28), none, [], true⟩])))
     (.reg [0, 3, 4, 5] [⟨(some 14), .mv (.s 5), none, [], false⟩,
       ⟨(some 15), .bin .add .num (.s 14) (.c (.int .i64 1)), none, [], false⟩,
       ⟨(some 5), .mv (.s 15), none, [], true⟩]))))))
   (.seq (.seq (.reg [4] [⟨(some 29), .mv (.s 4), none, [], false⟩,
     ⟨(some 30), .call (.c (.fn (.func 62) [] [])) [(.s 29)], none, [], false⟩,
     ⟨(some 31), .call (.c (.fn (.func 91) [] [])) [(.s 30)], none, [], false⟩,
     ⟨(some 32), .fld 0 false 1 (.s 31), none, [], false⟩])
   (.cond (.s 32)
    (.reg [4] [⟨(some 33), .bsl 1 (.int .i64 0) 1 [(0, (.c (.int .i64 (-1))))], none, [], false⟩,
      ⟨(some 34), .call (.c (.fn (.func 55) [] [])) [(.s 33)], none, [], false⟩,
      ⟨(some 35), .mv (.s 4), none, [], false⟩,
      ⟨(some 36), .call (.c (.fn (.func 24) [] [])) [(.s 34), (.s 35)], none, [], false⟩,
      ⟨(some 4), .mv (.s 36), none, [], true⟩])
    .skip))
   (.seq (.reg [4] [⟨(some 37), .mv (.s 4), none, [], false⟩,
     ⟨(some 2), .mv (.s 37), none, [], true⟩])
   .ret)))))) }
theorem tr32 : trF Tryz.prog h32 Tryz.f32 = some i32 := by kernel_rfl

-- (*ashlar/ore.Rule).Apply
def h33 : List (List Nat) := [[0, 1, 2], [0, 1, 2], [], [0, 1, 2], [], [0, 1, 2], [0, 1, 2, 8], [0, 1, 2], [1, 2, 8], [1, 2, 8, 9], [1, 2, 8, 9], [2, 8, 9, 36, 37, 38], [2, 8, 9, 36, 37, 38], [2, 8, 9, 36, 37, 38], [2, 8, 9, 10, 11, 36, 37, 38], [2, 8, 9, 11, 36, 37, 38], [2, 8, 9, 11, 36, 37, 38], [2, 8, 9, 36, 37, 38], [9]]
def i33 : IFn := { nparams := 3, ntmps := 55, results := [.tmp 6, .tmp 7], body :=
  (.seq (.reg [0, 1, 2] [⟨(some 6), .mv (.c (.sl .nil [])), none, [], true⟩,
     ⟨(some 7), .mv (.c (.int .i64 0)), none, [], true⟩])
   (.seq (.block 0
    (.seq (.reg [0, 1, 2] [⟨(some 13), .mv (.s 0), none, [], false⟩,
      ⟨(some 14), .bin .eql .ptr (.s 13) (.c .nilPtr), none, [], false⟩,
      ⟨(some 12), .mv (.s 14), none, [], true⟩])
    (.cond (.s 12)
     (.seq (.reg [] [⟨(some 6), .mv (.c (.sl .nil [])), none, [], true⟩,
       ⟨(some 7), .mv (.c (.int .i64 1)), none, [], true⟩])
     .ret)
     (.seq (.reg [0, 1, 2] [⟨(some 16), .mv (.s 1), none, [], false⟩,
       ⟨(some 17), .mv (.s 2), none, [], false⟩,
       ⟨(some 18), .mv (.s 0), none, [], false⟩,
       ⟨(some 19), .nilc (.s 18), none, [], false⟩,
       ⟨(some 20), .fldA 1 true 2 (.s 19), none, [], false⟩,
       ⟨(some 21), .load true 2 (.s 20), none, [], false⟩,
       ⟨(some 22), .call (.c (.fn (.func 92) [] [])) [(.s 16), (.s 17), (.s 21)], none, [], false⟩,
       ⟨(some 23), .bin .gtr .num (.s 22) (.c (.int .i64 1048576)), none, [], false⟩,
       ⟨(some 15), .mv (.s 23), none, [], true⟩])
     (.cond (.s 15)
      (.seq (.reg [] [⟨(some 6), .mv (.c (.sl .nil [])), none, [], true⟩,
        ⟨(some 7), .mv (.c (.int .i64 4)), none, [], true⟩])
      .ret)
      .skip)))))
   (.seq (.reg [0, 1, 2] [⟨(some 24), .mv (.s 0), none, [], false⟩,
     ⟨(some 25), .mkfn (.func 47) [(.s 24)] [], none, [], false⟩,
     ⟨(some 8), .mv (.s 25), none, [], true⟩])
   (.seq (.seq (.reg [0, 1, 2, 8] [⟨(some 26), .mv (.s 0), none, [], false⟩,
     ⟨(some 27), .nilc (.s 26), none, [], false⟩,
     ⟨(some 28), .fldA 0 false 1 (.s 27), none, [], false⟩,
     ⟨(some 29), .load false 1 (.s 28), none, [], false⟩,
     ⟨(some 30), .bin .eql .num (.s 29) (.c (.int .i64 2)), none, [], false⟩])
   (.cond (.s 30)
    (.reg [0, 1, 2] [⟨(some 31), .mv (.s 0), none, [], false⟩,
      ⟨(some 32), .mkfn (.func 49) [(.s 31)] [], none, [], false⟩,
      ⟨(some 8), .mv (.s 32), none, [], true⟩])
    .skip))
   (.seq (.reg [1, 2, 8] [⟨(some 9), .mv (.c (.sl .nil [])), none, [], true⟩])
   (.seq (.reg [1, 2, 8, 9] [⟨(some 33), .mv (.s 2), none, [], false⟩,
     ⟨(some 34), .call (.c (.fn (.func 93) [] [])) [(.s 33)], none, [], false⟩,
     ⟨(some 2), .mv (.s 34), none, [], true⟩])
   (.seq (.seq (.reg [1, 2, 8, 9] [⟨(some 35), .mv (.s 1), none, [], false⟩,
     ⟨(some 36), .call (.c (.fn (.func 83) [] [])) [(.s 35)], none, [], false⟩,
     ⟨(some 37), .len false (.s 36), none, [], false⟩,
     ⟨(some 38), .mv (.c (.int .i64 0)), none, [], false⟩])
   (.block 1
    (.loop [2, 8, 9, 36, 37, 38]
     (.seq (.reg [2, 8, 9, 36, 37, 38] [⟨(some 39), .bin .lss .num (.s 38) (.s 37), none, [], false⟩])
     (.seq (.cond (.s 39)
      .skip
      (.exit 1))
     (.seq (.block 2
      (.seq (.reg [2, 8, 9, 36, 37, 38] [⟨(some 40), .mv (.s 38), none, [], false⟩,
        ⟨(some 41), .idxA 1 (.s 36) (.s 38), none, [], false⟩,
        ⟨(some 42), .load false 1 (.s 41), none, [], false⟩,
        ⟨(some 10), .mv (.s 40), none, [], true⟩,
        ⟨(some 11), .mv (.s 42), none, [], true⟩])
      (.seq (.seq (.reg [2, 8, 9, 10, 11, 36, 37, 38] [⟨(some 43), .mv (.s 10), none, [], false⟩,
        ⟨(some 44), .bin .gtr .num (.s 43) (.c (.int .i64 0)), none, [], false⟩])
      (.cond (.s 44)
       (.reg [2, 8, 9, 11, 36, 37, 38] [⟨(some 45), .mv (.s 8), none, [], false⟩,
         ⟨(some 46), .mv (.s 2), none, [], false⟩,
         ⟨(some 47), .call (.s 45) [(.s 46)], none, [], false⟩,
         ⟨(some 2), .mv (.s 47), none, [], true⟩])
       .skip))
      (.reg [2, 8, 9, 11, 36, 37, 38] [⟨(some 48), .mv (.s 9), none, [], false⟩,
        ⟨(some 49), .mv (.s 11), none, [], false⟩,
        ⟨(some 50), .mv (.s 2), none, [], false⟩,
        ⟨(some 51), .call (.c (.fn (.func 95) [] [])) [(.s 49), (.s 50)], none, [], false⟩,
        ⟨(some 52), .call (.c (.fn (.func 94) [] [])) [(.s 48), (.s 51)], none, [], false⟩,
        ⟨(some 9), .mv (.s 52), none, [], true⟩]))))
     (.reg [2, 8, 9, 36, 37, 38] [⟨(some 53), .bin .add .num (.s 38) (.c (.int .i64 1)), none, [], false⟩,
       ⟨(some 38), .mv (.s 53), none, [], false⟩])))))))
   (.seq (.reg [9] [⟨(some 54), .mv (.s 9), none, [], false⟩,
     ⟨(some 6), .mv (.s 54), none, [], true⟩,
     ⟨(some 7), .mv (.c (.int .i64 0)), none, [], true⟩])
   .ret)))))))) }
theorem tr33 : trF Tryz.prog h33 Tryz.f33 = some i33 := by kernel_rfl
end Go.Proofs.YtklelbidjcealaaGreat
