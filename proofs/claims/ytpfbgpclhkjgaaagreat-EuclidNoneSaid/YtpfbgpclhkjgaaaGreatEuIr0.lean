/- A part of the proof: an evaluator of programs, its soundness, and what it says of the functions in hand. It holds without further conditions. -/
import Derived.Test.YtpfbgpclhkjgaaaGreatAb23
import Derived.Test.YtpfbgpclhkjgaaaGreatChecked
set_option linter.unusedVariables false
set_option maxRecDepth 100000
namespace Go.Proofs.YtpfbgpclhkjgaaaGreat
open Go.Ab

-- gosem.cut.init
def h2 : List (List Nat) := [[]]
def i2 : IFn := { nparams := 0, ntmps := 1, results := [], body :=
  (.reg [] [⟨(some 0), .call (.c (.fn (.func 1) [] [])) [], none, [], false⟩]) }
theorem tr2 : trF Tryz.prog h2 Tryz.f2 = some i2 := by kernel_rfl

-- ashlar/ashlarlaw10.DivAll
def h3 : List (List Nat) := [[0, 1, 2, 3], [0, 2, 3, 5], [0, 2, 3, 5, 9], [0, 2, 3, 5, 9], [2, 3, 9, 10, 11, 12], [9], [2, 3, 9, 10, 11], [2, 3, 9, 10, 11, 13, 14], [9, 11, 13, 14, 15, 16, 17, 18], [9, 15, 16, 17, 18], [9, 11, 13, 14, 15, 16, 17, 18], [9, 15, 16, 17, 18], [9, 11, 13, 14, 15, 16, 17, 18], [9, 11, 13, 14, 15, 16, 17, 18, 19], [9, 11, 13, 14, 15, 16, 17, 18, 19, 20], [9, 13, 14, 15, 16, 17, 18, 19, 20, 21], [9, 13, 14, 15, 16, 18, 19, 20, 21, 22], [], [9, 14, 15, 18, 19, 20, 21, 22]]
def i3 : IFn := { nparams := 4, ntmps := 159, results := [.tmp 8], body :=
  (.seq (.reg [0, 1, 2, 3] [⟨(some 5), .box 2 (.s 1), none, [], false⟩,
     ⟨(some 8), .mv (.c (.bool false)), none, [], true⟩])
   (.seq (.reg [0, 2, 3, 5] [⟨(some 23), .call (.c (.fn (.func 9) [] [])) [], none, [], false⟩,
     ⟨(some 9), .mv (.s 23), none, [], true⟩])
   (.seq (.reg [0, 2, 3, 5, 9] [⟨(some 24), .mv (.s 2), none, [], false⟩,
     ⟨(some 25), .call (.c (.fn (.func 10) [] [])) [(.s 24)], none, [], false⟩,
     ⟨(some 26), .mv (.s 3), none, [], false⟩,
     ⟨(some 27), .call (.c (.fn (.func 10) [] [])) [(.s 26)], none, [], false⟩,
     ⟨(some 2), .mv (.s 25), none, [], true⟩,
     ⟨(some 3), .mv (.s 27), none, [], true⟩])
   (.seq (.reg [0, 2, 3, 5, 9] [⟨(some 29), .mv (.s 0), none, [], false⟩,
     ⟨(some 30), .load true 2 (.s 5), none, [], false⟩,
     ⟨(some 31), .call (.c (.fn (.func 11) [] [])) [(.s 29), (.s 30)], none, [], false⟩,
     ⟨(some 28), .mv (.s 31), none, [], false⟩,
     ⟨(some 32), .extr (.s 28) 0, none, [], false⟩,
     ⟨(some 33), .extr (.s 28) 1, none, [], false⟩,
     ⟨(some 34), .extr (.s 28) 2, none, [], false⟩,
     ⟨(some 11), .alloc 3 (.agg [(.int .i64 0), (.bool false), (.sl .nil [])]), none, [], false⟩,
     ⟨(some 10), .mv (.s 32), none, [], true⟩,
     ⟨none, .store 3 (.s 11) (.s 33), none, [], false⟩,
     ⟨(some 12), .mv (.s 34), none, [], true⟩])
   (.seq (.seq (.reg [2, 3, 9, 10, 11, 12] [⟨(some 35), .mv (.s 12), none, [], false⟩,
     ⟨(some 36), .un .not (.s 35), none, [], false⟩])
   (.cond (.s 36)
    (.seq (.reg [9] [⟨(some 37), .mv (.s 9), none, [], false⟩,
      ⟨(some 8), .mv (.s 37), none, [], true⟩])
    .ret)
    .skip))
   (.seq (.reg [2, 3, 9, 10, 11] [⟨(some 38), .mv (.s 2), none, [], false⟩,
     ⟨(some 39), .call (.c (.fn (.func 12) [] [])) [(.s 38)], none, [], false⟩,
     ⟨(some 40), .mv (.s 3), none, [], false⟩,
     ⟨(some 41), .call (.c (.fn (.func 12) [] [])) [(.s 40)], none, [], false⟩,
     ⟨(some 13), .mv (.s 39), none, [], true⟩,
     ⟨(some 14), .mv (.s 41), none, [], true⟩])
   (.seq (.reg [2, 3, 9, 10, 11, 13, 14] [⟨(some 43), .mv (.s 10), none, [], false⟩,
     ⟨(some 44), .mv (.s 2), none, [], false⟩,
     ⟨(some 45), .mv (.s 3), none, [], false⟩,
     ⟨(some 46), .call (.c (.fn (.func 13) [] [])) [(.s 43), (.s 44), (.s 45)], none, [], false⟩,
     ⟨(some 42), .mv (.s 46), none, [], false⟩,
     ⟨(some 47), .extr (.s 42) 0, none, [], false⟩,
     ⟨(some 48), .extr (.s 42) 1, none, [], false⟩,
     ⟨(some 49), .extr (.s 42) 2, none, [], false⟩,
     ⟨(some 50), .extr (.s 42) 3, none, [], false⟩,
     ⟨(some 15), .mv (.s 47), none, [], true⟩,
     ⟨(some 16), .mv (.s 48), none, [], true⟩,
     ⟨(some 17), .mv (.s 49), none, [], true⟩,
     ⟨(some 18), .mv (.s 50), none, [], true⟩])
   (.seq (.seq (.reg [9, 11, 13, 14, 15, 16, 17, 18] [⟨(some 51), .mv (.s 14), none, [], false⟩,
     ⟨(some 52), .len false (.s 51), none, [], false⟩,
     ⟨(some 53), .bin .eql .num (.s 52) (.c (.int .i64 0)), none, [], false⟩])
   (.cond (.s 53)
    (.seq (.reg [9, 15, 16, 17, 18] [⟨(some 54), .mv (.s 9), none, [], false⟩,
      ⟨(some 55), .mv (.s 54), none, [], false⟩,
      ⟨(some 56), .mv (.s 18), (some (55, true)), [], false⟩,
      ⟨(some 57), .bin .eql .num (.s 56) (.c (.int .i64 2)), (some (55, true)), [], false⟩,
      ⟨(some 58), .pick (.s 55) (.s 57) (.c (.bool false)), none, [], false⟩,
      ⟨(some 59), .mv (.s 58), none, [], false⟩,
      ⟨(some 60), .mv (.s 15), (some (59, true)), [], false⟩,
      ⟨(some 61), .len false (.s 60), (some (59, true)), [], false⟩,
      ⟨(some 62), .bin .eql .num (.s 61) (.c (.int .i64 0)), (some (59, true)), [], false⟩,
      ⟨(some 63), .pick (.s 59) (.s 62) (.c (.bool false)), none, [], false⟩,
      ⟨(some 64), .mv (.s 63), none, [], false⟩,
      ⟨(some 65), .mv (.s 16), (some (64, true)), [], false⟩,
      ⟨(some 66), .len false (.s 65), (some (64, true)), [], false⟩,
      ⟨(some 67), .bin .eql .num (.s 66) (.c (.int .i64 0)), (some (64, true)), [], false⟩,
      ⟨(some 68), .pick (.s 64) (.s 67) (.c (.bool false)), none, [], false⟩,
      ⟨(some 69), .mv (.s 68), none, [], false⟩,
      ⟨(some 70), .mv (.s 17), (some (69, true)), [], false⟩,
      ⟨(some 71), .len false (.s 70), (some (69, true)), [], false⟩,
      ⟨(some 72), .bin .eql .num (.s 71) (.c (.int .i64 0)), (some (69, true)), [], false⟩,
      ⟨(some 73), .pick (.s 69) (.s 72) (.c (.bool false)), none, [], false⟩,
      ⟨(some 8), .mv (.s 73), none, [], true⟩])
    .ret)
    .skip))
   (.seq (.seq (.reg [9, 11, 13, 14, 15, 16, 17, 18] [⟨(some 74), .mv (.s 13), none, [], false⟩,
     ⟨(some 75), .mv (.s 14), none, [], false⟩,
     ⟨(some 76), .fldA 1 true 2 (.s 11), none, [], false⟩,
     ⟨(some 77), .load true 2 (.s 76), none, [], false⟩,
     ⟨(some 78), .call (.c (.fn (.func 14) [] [])) [(.s 74), (.s 75), (.s 77)], none, [], false⟩,
     ⟨(some 79), .bin .gtr .num (.s 78) (.c (.int .i64 1048576)), none, [], false⟩])
   (.cond (.s 79)
    (.seq (.reg [9, 15, 16, 17, 18] [⟨(some 80), .mv (.s 9), none, [], false⟩,
      ⟨(some 81), .mv (.s 80), none, [], false⟩,
      ⟨(some 82), .mv (.s 18), (some (81, true)), [], false⟩,
      ⟨(some 83), .bin .eql .num (.s 82) (.c (.int .i64 4)), (some (81, true)), [], false⟩,
      ⟨(some 84), .pick (.s 81) (.s 83) (.c (.bool false)), none, [], false⟩,
      ⟨(some 85), .mv (.s 84), none, [], false⟩,
      ⟨(some 86), .mv (.s 15), (some (85, true)), [], false⟩,
      ⟨(some 87), .len false (.s 86), (some (85, true)), [], false⟩,
      ⟨(some 88), .bin .eql .num (.s 87) (.c (.int .i64 0)), (some (85, true)), [], false⟩,
      ⟨(some 89), .pick (.s 85) (.s 88) (.c (.bool false)), none, [], false⟩,
      ⟨(some 90), .mv (.s 89), none, [], false⟩,
      ⟨(some 91), .mv (.s 16), (some (90, true)), [], false⟩,
      ⟨(some 92), .len false (.s 91), (some (90, true)), [], false⟩,
      ⟨(some 93), .bin .eql .num (.s 92) (.c (.int .i64 0)), (some (90, true)), [], false⟩,
      ⟨(some 94), .pick (.s 90) (.s 93) (.c (.bool false)), none, [], false⟩,
      ⟨(some 95), .mv (.s 94), none, [], false⟩,
      ⟨(some 96), .mv (.s 17), (some (95, true)), [], false⟩,
      ⟨(some 97), .len false (.s 96), (some (95, true)), [], false⟩,
      ⟨(some 98), .bin .eql .num (.s 97) (.c (.int .i64 0)), (some (95, true)), [], false⟩,
      ⟨(some 99), .pick (.s 95) (.s 98) (.c (.bool false)), none, [], false⟩,
      ⟨(some 8), .mv (.s 99), none, [], true⟩])
    .ret)
    .skip))
   (.seq (.reg [9, 11, 13, 14, 15, 16, 17, 18] [⟨(some 100), .mv (.s 17), none, [], false⟩,
     ⟨(some 101), .call (.c (.fn (.func 12) [] [])) [(.s 100)], none, [], false⟩,
     ⟨(some 19), .mv (.s 101), none, [], true⟩])
   (.seq (.reg [9, 11, 13, 14, 15, 16, 17, 18, 19] [⟨(some 102), .mv (.s 15), none, [], false⟩,
     ⟨(some 103), .call (.c (.fn (.func 16) [] [])) [(.s 102)], none, [], false⟩,
     ⟨(some 104), .mv (.s 13), none, [], false⟩,
     ⟨(some 105), .call (.c (.fn (.func 15) [] [])) [(.s 103), (.s 104)], none, [], false⟩,
     ⟨(some 20), .mv (.s 105), none, [], true⟩])
   (.seq (.draw [9, 11, 13, 14, 15, 16, 17, 18, 19, 20] [⟨(some 106), .load true 3 (.s 11), none, [], false⟩,
     ⟨(some 107), .mv (.s 16), none, [], false⟩,
     ⟨(some 108), .call (.c (.fn (.func 12) [] [])) [(.s 107)], none, [1], false⟩,
     ⟨(some 109), .mv (.s 14), none, [], false⟩,
     ⟨(some 110), .call (.c (.fn (.func 18) [] [])) [(.s 106), (.s 108), (.s 109)], none, [0, 2, 3], false⟩,
     ⟨(some 111), .mv (.s 19), none, [], false⟩,
     ⟨(some 112), .call (.c (.fn (.func 17) [] [])) [(.s 110), (.s 111)], none, [4, 5], false⟩,
     ⟨(some 21), .mv (.s 112), none, [6, 0, 1, 2, 3, 4, 5], true⟩])
   (.seq (.reg [9, 13, 14, 15, 16, 17, 18, 19, 20, 21] [⟨(some 113), .mv (.s 16), none, [], false⟩,
     ⟨(some 114), .mv (.s 17), none, [], false⟩,
     ⟨(some 115), .bsl 1 (.sl .nil []) 2 [(0, (.s 113)), (1, (.s 114))], none, [], false⟩,
     ⟨(some 116), .call (.c (.fn (.func 19) [] [])) [(.s 115)], none, [], false⟩,
     ⟨(some 22), .mv (.s 116), none, [], true⟩])
   (.seq (.seq (.reg [9, 13, 14, 15, 16, 18, 19, 20, 21, 22] [⟨(some 117), .mv (.s 13), none, [], false⟩,
     ⟨(some 118), .call (.c (.fn (.func 20) [] [])) [(.s 117)], none, [], false⟩,
     ⟨(some 119), .mv (.s 14), none, [], false⟩,
     ⟨(some 120), .call (.c (.fn (.func 20) [] [])) [(.s 119)], none, [], false⟩,
     ⟨(some 121), .bin .lss .num (.s 118) (.s 120), none, [], false⟩,
     ⟨(some 122), .mv (.s 121), none, [], false⟩,
     ⟨(some 123), .mv (.s 15), (some (122, true)), [], false⟩,
     ⟨(some 124), .bsl 1 (.int .i64 0) 1 [(0, (.c (.int .i64 1)))], (some (122, true)), [], false⟩,
     ⟨(some 125), .call (.c (.fn (.func 22) [] [])) [(.s 124)], (some (122, true)), [], false⟩,
     ⟨(some 126), .call (.c (.fn (.func 21) [] [])) [(.s 123), (.s 125)], (some (122, true)), [], false⟩,
     ⟨(some 127), .un .not (.s 126), (some (122, true)), [], false⟩,
     ⟨(some 128), .mv (.s 127), (some (122, true)), [], false⟩,
     ⟨(some 129), .mv (.s 16), (some (128, false)), [], false⟩,
     ⟨(some 130), .len false (.s 129), (some (128, false)), [], false⟩,
     ⟨(some 131), .bin .neq .num (.s 130) (.c (.int .i64 0)), (some (128, false)), [], false⟩,
     ⟨(some 132), .pick (.s 128) (.c (.bool true)) (.s 131), (some (122, true)), [], false⟩,
     ⟨(some 133), .pick (.s 122) (.s 132) (.c (.bool false)), none, [], false⟩])
   (.cond (.s 133)
    (.seq (.reg [] [⟨(some 8), .mv (.c (.bool false)), none, [], true⟩])
    .ret)
    .skip))
   (.seq (.reg [9, 14, 15, 18, 19, 20, 21, 22] [⟨(some 134), .mv (.s 9), none, [], false⟩,
     ⟨(some 135), .mv (.s 134), none, [], false⟩,
     ⟨(some 136), .mv (.s 18), (some (135, true)), [], false⟩,
     ⟨(some 137), .bin .eql .num (.s 136) (.c (.int .i64 0)), (some (135, true)), [], false⟩,
     ⟨(some 138), .pick (.s 135) (.s 137) (.c (.bool false)), none, [], false⟩,
     ⟨(some 139), .mv (.s 138), none, [], false⟩,
     ⟨(some 140), .mv (.s 15), (some (139, true)), [], false⟩,
     ⟨(some 141), .len false (.s 140), (some (139, true)), [], false⟩,
     ⟨(some 142), .bin .gtr .num (.s 141) (.c (.int .i64 0)), (some (139, true)), [], false⟩,
     ⟨(some 143), .pick (.s 139) (.s 142) (.c (.bool false)), none, [], false⟩,
     ⟨(some 144), .mv (.s 143), none, [], false⟩,
     ⟨(some 145), .mv (.s 20), (some (144, true)), [], false⟩,
     ⟨(some 146), .mv (.s 21), (some (144, true)), [], false⟩,
     ⟨(some 147), .call (.c (.fn (.func 23) [] [])) [(.s 145), (.s 146)], (some (144, true)), [], false⟩,
     ⟨(some 148), .pick (.s 144) (.s 147) (.c (.bool false)), none, [], false⟩,
     ⟨(some 149), .mv (.s 148), none, [], false⟩,
     ⟨(some 150), .mv (.s 19), (some (149, true)), [], false⟩,
     ⟨(some 151), .call (.c (.fn (.func 20) [] [])) [(.s 150)], (some (149, true)), [], false⟩,
     ⟨(some 152), .mv (.s 14), (some (149, true)), [], false⟩,
     ⟨(some 153), .call (.c (.fn (.func 20) [] [])) [(.s 152)], (some (149, true)), [], false⟩,
     ⟨(some 154), .bin .lss .num (.s 151) (.s 153), (some (149, true)), [], false⟩,
     ⟨(some 155), .pick (.s 149) (.s 154) (.c (.bool false)), none, [], false⟩,
     ⟨(some 156), .mv (.s 155), none, [], false⟩,
     ⟨(some 157), .mv (.s 22), (some (156, true)), [], false⟩,
     ⟨(some 158), .pick (.s 156) (.s 157) (.c (.bool false)), none, [], false⟩,
     ⟨(some 8), .mv (.s 158), none, [], true⟩])
   .ret))))))))))))))) }
theorem tr3 : trF Tryz.prog h3 Tryz.f3 = some i3 := by kernel_rfl

-- ashlar/ashlarlaw10.DivMade
def h4 : List (List Nat) := [[0, 1, 2, 3, 4], [0, 2, 3, 4, 6], [0, 2, 3, 4, 6, 11], [0, 2, 3, 4, 6, 11], [2, 3, 4, 11, 12, 13, 14], [2, 3, 11, 12, 13, 14, 15, 16], [11], [2, 3, 11, 12, 13, 15, 16], [3, 11, 12, 15, 16, 17], [3, 11, 12, 15, 16, 17, 18, 19], [11, 18, 19], [3, 11, 12, 15, 16, 17, 18], [], [3, 11, 12, 15, 16, 17], [11], [3, 11, 12, 16, 17], [11, 20, 21]]
def i4 : IFn := { nparams := 5, ntmps := 108, results := [.tmp 10], body :=
  (.seq (.reg [0, 1, 2, 3, 4] [⟨(some 6), .box 2 (.s 1), none, [], false⟩,
     ⟨(some 10), .mv (.c (.bool false)), none, [], true⟩])
   (.seq (.reg [0, 2, 3, 4, 6] [⟨(some 22), .call (.c (.fn (.func 9) [] [])) [], none, [], false⟩,
     ⟨(some 11), .mv (.s 22), none, [], true⟩])
   (.seq (.reg [0, 2, 3, 4, 6, 11] [⟨(some 23), .mv (.s 2), none, [], false⟩,
     ⟨(some 24), .call (.c (.fn (.func 24) [] [])) [(.s 23), (.c (.int .i64 2)), (.c (.int .i64 2)), (.c (.int .i64 1))], none, [], false⟩,
     ⟨(some 25), .mv (.s 3), none, [], false⟩,
     ⟨(some 26), .call (.c (.fn (.func 24) [] [])) [(.s 25), (.c (.int .i64 2)), (.c (.int .i64 2)), (.c (.int .i64 1))], none, [], false⟩,
     ⟨(some 27), .mv (.s 4), none, [], false⟩,
     ⟨(some 28), .call (.c (.fn (.func 24) [] [])) [(.s 27), (.c (.int .i64 1)), (.c (.int .i64 2)), (.c (.int .i64 1))], none, [], false⟩,
     ⟨(some 2), .mv (.s 24), none, [], true⟩,
     ⟨(some 3), .mv (.s 26), none, [], true⟩,
     ⟨(some 4), .mv (.s 28), none, [], true⟩])
   (.seq (.reg [0, 2, 3, 4, 6, 11] [⟨(some 30), .mv (.s 0), none, [], false⟩,
     ⟨(some 31), .load true 2 (.s 6), none, [], false⟩,
     ⟨(some 32), .call (.c (.fn (.func 11) [] [])) [(.s 30), (.s 31)], none, [], false⟩,
     ⟨(some 29), .mv (.s 32), none, [], false⟩,
     ⟨(some 33), .extr (.s 29) 0, none, [], false⟩,
     ⟨(some 34), .extr (.s 29) 1, none, [], false⟩,
     ⟨(some 35), .extr (.s 29) 2, none, [], false⟩,
     ⟨(some 13), .alloc 3 (.agg [(.int .i64 0), (.bool false), (.sl .nil [])]), none, [], false⟩,
     ⟨(some 12), .mv (.s 33), none, [], true⟩,
     ⟨none, .store 3 (.s 13) (.s 34), none, [], false⟩,
     ⟨(some 14), .mv (.s 35), none, [], true⟩])
   (.seq (.reg [2, 3, 4, 11, 12, 13, 14] [⟨(some 36), .mv (.s 3), none, [], false⟩,
     ⟨(some 37), .call (.c (.fn (.func 12) [] [])) [(.s 36)], none, [], false⟩,
     ⟨(some 38), .mv (.s 4), none, [], false⟩,
     ⟨(some 39), .call (.c (.fn (.func 12) [] [])) [(.s 38)], none, [], false⟩,
     ⟨(some 15), .mv (.s 37), none, [], true⟩,
     ⟨(some 16), .mv (.s 39), none, [], true⟩])
   (.seq (.seq (.reg [2, 3, 11, 12, 13, 14, 15, 16] [⟨(some 40), .mv (.s 14), none, [], false⟩,
     ⟨(some 41), .un .not (.s 40), none, [], false⟩,
     ⟨(some 42), .mv (.s 41), none, [], false⟩,
     ⟨(some 43), .mv (.s 15), (some (42, false)), [], false⟩,
     ⟨(some 44), .len false (.s 43), (some (42, false)), [], false⟩,
     ⟨(some 45), .bin .eql .num (.s 44) (.c (.int .i64 0)), (some (42, false)), [], false⟩,
     ⟨(some 46), .pick (.s 42) (.c (.bool true)) (.s 45), none, [], false⟩])
   (.cond (.s 46)
    (.seq (.reg [11] [⟨(some 47), .mv (.s 11), none, [], false⟩,
      ⟨(some 10), .mv (.s 47), none, [], true⟩])
    .ret)
    .skip))
   (.seq (.draw [2, 3, 11, 12, 13, 15, 16] [⟨(some 48), .load true 3 (.s 13), none, [], false⟩,
     ⟨(some 49), .mv (.s 2), none, [], false⟩,
     ⟨(some 50), .call (.c (.fn (.func 12) [] [])) [(.s 49)], none, [1], false⟩,
     ⟨(some 51), .mv (.s 15), none, [], false⟩,
     ⟨(some 52), .call (.c (.fn (.func 18) [] [])) [(.s 48), (.s 50), (.s 51)], none, [0, 2, 3], false⟩,
     ⟨(some 17), .mv (.s 52), none, [4, 0, 1, 2, 3], true⟩])
   (.seq (.reg [3, 11, 12, 15, 16, 17] [⟨(some 54), .mv (.s 12), none, [], false⟩,
     ⟨(some 55), .mv (.s 3), none, [], false⟩,
     ⟨(some 56), .mv (.s 17), none, [], false⟩,
     ⟨(some 57), .call (.c (.fn (.func 26) [] [])) [(.s 56)], none, [], false⟩,
     ⟨(some 58), .call (.c (.fn (.func 25) [] [])) [(.s 54), (.s 55), (.s 57)], none, [], false⟩,
     ⟨(some 53), .mv (.s 58), none, [], false⟩,
     ⟨(some 59), .extr (.s 53) 0, none, [], false⟩,
     ⟨(some 60), .extr (.s 53) 1, none, [], false⟩,
     ⟨(some 18), .mv (.s 59), none, [], true⟩,
     ⟨(some 19), .mv (.s 60), none, [], true⟩])
   (.seq (.seq (.reg [3, 11, 12, 15, 16, 17, 18, 19] [⟨(some 61), .mv (.s 19), none, [], false⟩,
     ⟨(some 62), .bin .neq .num (.s 61) (.c (.int .i64 0)), none, [], false⟩])
   (.cond (.s 62)
    (.seq (.reg [11, 18, 19] [⟨(some 63), .mv (.s 11), none, [], false⟩,
      ⟨(some 64), .mv (.s 63), none, [], false⟩,
      ⟨(some 65), .mv (.s 19), (some (64, true)), [], false⟩,
      ⟨(some 66), .bin .eql .num (.s 65) (.c (.int .i64 4)), (some (64, true)), [], false⟩,
      ⟨(some 67), .pick (.s 64) (.s 66) (.c (.bool false)), none, [], false⟩,
      ⟨(some 68), .mv (.s 67), none, [], false⟩,
      ⟨(some 69), .mv (.s 18), (some (68, true)), [], false⟩,
      ⟨(some 70), .un .not (.s 69), (some (68, true)), [], false⟩,
      ⟨(some 71), .pick (.s 68) (.s 70) (.c (.bool false)), none, [], false⟩,
      ⟨(some 10), .mv (.s 71), none, [], true⟩])
    .ret)
    .skip))
   (.seq (.seq (.reg [3, 11, 12, 15, 16, 17, 18] [⟨(some 72), .mv (.s 18), none, [], false⟩,
     ⟨(some 73), .un .not (.s 72), none, [], false⟩])
   (.cond (.s 73)
    (.seq (.reg [] [⟨(some 10), .mv (.c (.bool false)), none, [], true⟩])
    .ret)
    .skip))
   (.seq (.seq (.reg [3, 11, 12, 15, 16, 17] [⟨(some 74), .mv (.s 16), none, [], false⟩,
     ⟨(some 75), .len false (.s 74), none, [], false⟩,
     ⟨(some 76), .bin .eql .num (.s 75) (.c (.int .i64 0)), none, [], false⟩,
     ⟨(some 77), .mv (.s 76), none, [], false⟩,
     ⟨(some 78), .mv (.s 16), (some (77, false)), [], false⟩,
     ⟨(some 79), .call (.c (.fn (.func 20) [] [])) [(.s 78)], (some (77, false)), [], false⟩,
     ⟨(some 80), .mv (.s 15), (some (77, false)), [], false⟩,
     ⟨(some 81), .call (.c (.fn (.func 20) [] [])) [(.s 80)], (some (77, false)), [], false⟩,
     ⟨(some 82), .bin .geq .num (.s 79) (.s 81), (some (77, false)), [], false⟩,
     ⟨(some 83), .pick (.s 77) (.c (.bool true)) (.s 82), none, [], false⟩])
   (.cond (.s 83)
    (.seq (.reg [11] [⟨(some 84), .mv (.s 11), none, [], false⟩,
      ⟨(some 10), .mv (.s 84), none, [], true⟩])
    .ret)
    .skip))
   (.seq (.reg [3, 11, 12, 16, 17] [⟨(some 86), .mv (.s 12), none, [], false⟩,
     ⟨(some 87), .mv (.s 3), none, [], false⟩,
     ⟨(some 88), .mv (.s 17), none, [], false⟩,
     ⟨(some 89), .mv (.s 16), none, [], false⟩,
     ⟨(some 90), .call (.c (.fn (.func 17) [] [])) [(.s 88), (.s 89)], none, [], false⟩,
     ⟨(some 91), .call (.c (.fn (.func 26) [] [])) [(.s 90)], none, [], false⟩,
     ⟨(some 92), .call (.c (.fn (.func 25) [] [])) [(.s 86), (.s 87), (.s 91)], none, [], false⟩,
     ⟨(some 85), .mv (.s 92), none, [], false⟩,
     ⟨(some 93), .extr (.s 85) 0, none, [], false⟩,
     ⟨(some 94), .extr (.s 85) 1, none, [], false⟩,
     ⟨(some 20), .mv (.s 93), none, [], true⟩,
     ⟨(some 21), .mv (.s 94), none, [], true⟩])
   (.seq (.reg [11, 20, 21] [⟨(some 95), .mv (.s 11), none, [], false⟩,
     ⟨(some 96), .mv (.s 95), none, [], false⟩,
     ⟨(some 97), .mv (.s 20), (some (96, true)), [], false⟩,
     ⟨(some 98), .un .not (.s 97), (some (96, true)), [], false⟩,
     ⟨(some 99), .pick (.s 96) (.s 98) (.c (.bool false)), none, [], false⟩,
     ⟨(some 100), .mv (.s 99), none, [], false⟩,
     ⟨(some 101), .mv (.s 21), (some (100, true)), [], false⟩,
     ⟨(some 102), .bin .eql .num (.s 101) (.c (.int .i64 0)), (some (100, true)), [], false⟩,
     ⟨(some 103), .mv (.s 102), (some (100, true)), [], false⟩,
     ⟨(some 104), .mv (.s 21), (some (103, false)), [], false⟩,
     ⟨(some 105), .bin .eql .num (.s 104) (.c (.int .i64 4)), (some (103, false)), [], false⟩,
     ⟨(some 106), .pick (.s 103) (.c (.bool true)) (.s 105), (some (100, true)), [], false⟩,
     ⟨(some 107), .pick (.s 100) (.s 106) (.c (.bool false)), none, [], false⟩,
     ⟨(some 10), .mv (.s 107), none, [], true⟩])
   .ret))))))))))))) }
theorem tr4 : trF Tryz.prog h4 Tryz.f4 = some i4 := by kernel_rfl

-- ashlar/ashlarlaw10.CommonAll
def h5 : List (List Nat) := [[0, 1, 2, 3], [0, 2, 3, 5], [0, 2, 3, 5, 9], [0, 2, 3, 5, 9], [2, 3, 9, 10, 11, 12], [9], [2, 3, 9, 10, 11], [2, 3, 9, 10, 11, 13, 14], [9, 11, 13, 14, 15, 16], [9, 15, 16], [9, 11, 13, 14, 15, 16], [9, 15, 16], [9, 11, 13, 14, 15, 16], [], [9, 11, 13, 14, 15], [9, 11, 13, 14, 15, 17], [9, 11, 13, 14, 15, 17, 18], [9, 11, 13, 14, 15, 17, 19], [9, 11, 14, 15, 17, 19, 20], [9, 15, 17, 19, 20, 21], [9, 15, 19, 20, 21, 22], [9, 19, 20, 21, 22, 23]]
def i5 : IFn := { nparams := 4, ntmps := 192, results := [.tmp 8], body :=
  (.seq (.reg [0, 1, 2, 3] [⟨(some 5), .box 2 (.s 1), none, [], false⟩,
     ⟨(some 8), .mv (.c (.bool false)), none, [], true⟩])
   (.seq (.reg [0, 2, 3, 5] [⟨(some 24), .call (.c (.fn (.func 9) [] [])) [], none, [], false⟩,
     ⟨(some 9), .mv (.s 24), none, [], true⟩])
   (.seq (.reg [0, 2, 3, 5, 9] [⟨(some 25), .mv (.s 2), none, [], false⟩,
     ⟨(some 26), .call (.c (.fn (.func 24) [] [])) [(.s 25), (.c (.int .i64 2)), (.c (.int .i64 3)), (.c (.int .i64 1))], none, [], false⟩,
     ⟨(some 27), .mv (.s 3), none, [], false⟩,
     ⟨(some 28), .call (.c (.fn (.func 24) [] [])) [(.s 27), (.c (.int .i64 2)), (.c (.int .i64 3)), (.c (.int .i64 1))], none, [], false⟩,
     ⟨(some 2), .mv (.s 26), none, [], true⟩,
     ⟨(some 3), .mv (.s 28), none, [], true⟩])
   (.seq (.reg [0, 2, 3, 5, 9] [⟨(some 30), .mv (.s 0), none, [], false⟩,
     ⟨(some 31), .load true 2 (.s 5), none, [], false⟩,
     ⟨(some 32), .call (.c (.fn (.func 11) [] [])) [(.s 30), (.s 31)], none, [], false⟩,
     ⟨(some 29), .mv (.s 32), none, [], false⟩,
     ⟨(some 33), .extr (.s 29) 0, none, [], false⟩,
     ⟨(some 34), .extr (.s 29) 1, none, [], false⟩,
     ⟨(some 35), .extr (.s 29) 2, none, [], false⟩,
     ⟨(some 11), .alloc 3 (.agg [(.int .i64 0), (.bool false), (.sl .nil [])]), none, [], false⟩,
     ⟨(some 10), .mv (.s 33), none, [], true⟩,
     ⟨none, .store 3 (.s 11) (.s 34), none, [], false⟩,
     ⟨(some 12), .mv (.s 35), none, [], true⟩])
   (.seq (.seq (.reg [2, 3, 9, 10, 11, 12] [⟨(some 36), .mv (.s 12), none, [], false⟩,
     ⟨(some 37), .un .not (.s 36), none, [], false⟩])
   (.cond (.s 37)
    (.seq (.reg [9] [⟨(some 38), .mv (.s 9), none, [], false⟩,
      ⟨(some 8), .mv (.s 38), none, [], true⟩])
    .ret)
    .skip))
   (.seq (.reg [2, 3, 9, 10, 11] [⟨(some 39), .mv (.s 2), none, [], false⟩,
     ⟨(some 40), .call (.c (.fn (.func 12) [] [])) [(.s 39)], none, [], false⟩,
     ⟨(some 41), .mv (.s 3), none, [], false⟩,
     ⟨(some 42), .call (.c (.fn (.func 12) [] [])) [(.s 41)], none, [], false⟩,
     ⟨(some 13), .mv (.s 40), none, [], true⟩,
     ⟨(some 14), .mv (.s 42), none, [], true⟩])
   (.seq (.reg [2, 3, 9, 10, 11, 13, 14] [⟨(some 44), .mv (.s 10), none, [], false⟩,
     ⟨(some 45), .mv (.s 2), none, [], false⟩,
     ⟨(some 46), .mv (.s 3), none, [], false⟩,
     ⟨(some 47), .call (.c (.fn (.func 27) [] [])) [(.s 44), (.s 45), (.s 46)], none, [], false⟩,
     ⟨(some 43), .mv (.s 47), none, [], false⟩,
     ⟨(some 48), .extr (.s 43) 0, none, [], false⟩,
     ⟨(some 49), .extr (.s 43) 1, none, [], false⟩,
     ⟨(some 15), .alloc 8 (.agg [(.sl .nil []), (.sl .nil []), (.sl .nil []), (.sl .nil []), (.sl .nil []), (.sl .nil []), (.sl .nil []), (.sl .nil [])]), none, [], false⟩,
     ⟨none, .store 8 (.s 15) (.s 48), none, [], false⟩,
     ⟨(some 16), .mv (.s 49), none, [], true⟩])
   (.seq (.seq (.reg [9, 11, 13, 14, 15, 16] [⟨(some 50), .mv (.s 13), none, [], false⟩,
     ⟨(some 51), .len false (.s 50), none, [], false⟩,
     ⟨(some 52), .bin .eql .num (.s 51) (.c (.int .i64 0)), none, [], false⟩,
     ⟨(some 53), .mv (.s 52), none, [], false⟩,
     ⟨(some 54), .mv (.s 14), (some (53, true)), [], false⟩,
     ⟨(some 55), .len false (.s 54), (some (53, true)), [], false⟩,
     ⟨(some 56), .bin .eql .num (.s 55) (.c (.int .i64 0)), (some (53, true)), [], false⟩,
     ⟨(some 57), .pick (.s 53) (.s 56) (.c (.bool false)), none, [], false⟩])
   (.cond (.s 57)
    (.seq (.reg [9, 15, 16] [⟨(some 58), .mv (.s 9), none, [], false⟩,
      ⟨(some 59), .mv (.s 58), none, [], false⟩,
      ⟨(some 60), .mv (.s 16), (some (59, true)), [], false⟩,
      ⟨(some 61), .bin .eql .num (.s 60) (.c (.int .i64 2)), (some (59, true)), [], false⟩,
      ⟨(some 62), .pick (.s 59) (.s 61) (.c (.bool false)), none, [], false⟩,
      ⟨(some 63), .mv (.s 62), none, [], false⟩,
      ⟨(some 64), .fldA 0 false 1 (.s 15), (some (63, true)), [], false⟩,
      ⟨(some 65), .load false 1 (.s 64), (some (63, true)), [], false⟩,
      ⟨(some 66), .len false (.s 65), (some (63, true)), [], false⟩,
      ⟨(some 67), .bin .eql .num (.s 66) (.c (.int .i64 0)), (some (63, true)), [], false⟩,
      ⟨(some 68), .pick (.s 63) (.s 67) (.c (.bool false)), none, [], false⟩,
      ⟨(some 8), .mv (.s 68), none, [], true⟩])
    .ret)
    .skip))
   (.seq (.seq (.reg [9, 11, 13, 14, 15, 16] [⟨(some 69), .mv (.s 13), none, [], false⟩,
     ⟨(some 70), .mv (.s 14), none, [], false⟩,
     ⟨(some 71), .fldA 1 true 2 (.s 11), none, [], false⟩,
     ⟨(some 72), .load true 2 (.s 71), none, [], false⟩,
     ⟨(some 73), .call (.c (.fn (.func 28) [] [])) [(.s 69), (.s 70), (.s 72)], none, [], false⟩,
     ⟨(some 74), .bin .gtr .num (.s 73) (.c (.int .i64 1048576)), none, [], false⟩])
   (.cond (.s 74)
    (.seq (.reg [9, 15, 16] [⟨(some 75), .mv (.s 9), none, [], false⟩,
      ⟨(some 76), .mv (.s 75), none, [], false⟩,
      ⟨(some 77), .mv (.s 16), (some (76, true)), [], false⟩,
      ⟨(some 78), .bin .eql .num (.s 77) (.c (.int .i64 4)), (some (76, true)), [], false⟩,
      ⟨(some 79), .pick (.s 76) (.s 78) (.c (.bool false)), none, [], false⟩,
      ⟨(some 80), .mv (.s 79), none, [], false⟩,
      ⟨(some 81), .fldA 0 false 1 (.s 15), (some (80, true)), [], false⟩,
      ⟨(some 82), .load false 1 (.s 81), (some (80, true)), [], false⟩,
      ⟨(some 83), .len false (.s 82), (some (80, true)), [], false⟩,
      ⟨(some 84), .bin .eql .num (.s 83) (.c (.int .i64 0)), (some (80, true)), [], false⟩,
      ⟨(some 85), .pick (.s 80) (.s 84) (.c (.bool false)), none, [], false⟩,
      ⟨(some 8), .mv (.s 85), none, [], true⟩])
    .ret)
    .skip))
   (.seq (.seq (.reg [9, 11, 13, 14, 15, 16] [⟨(some 86), .mv (.s 16), none, [], false⟩,
     ⟨(some 87), .bin .neq .num (.s 86) (.c (.int .i64 0)), none, [], false⟩,
     ⟨(some 88), .mv (.s 87), none, [], false⟩,
     ⟨(some 89), .fldA 0 false 1 (.s 15), (some (88, false)), [], false⟩,
     ⟨(some 90), .load false 1 (.s 89), (some (88, false)), [], false⟩,
     ⟨(some 91), .len false (.s 90), (some (88, false)), [], false⟩,
     ⟨(some 92), .bin .eql .num (.s 91) (.c (.int .i64 0)), (some (88, false)), [], false⟩,
     ⟨(some 93), .pick (.s 88) (.c (.bool true)) (.s 92), none, [], false⟩,
     ⟨(some 94), .mv (.s 93), none, [], false⟩,
     ⟨(some 95), .fldA 3 false 1 (.s 15), (some (94, false)), [], false⟩,
     ⟨(some 96), .load false 1 (.s 95), (some (94, false)), [], false⟩,
     ⟨(some 97), .len false (.s 96), (some (94, false)), [], false⟩,
     ⟨(some 98), .bin .eql .num (.s 97) (.c (.int .i64 0)), (some (94, false)), [], false⟩,
     ⟨(some 99), .pick (.s 94) (.c (.bool true)) (.s 98), none, [], false⟩,
     ⟨(some 100), .mv (.s 99), none, [], false⟩,
     ⟨(some 101), .fldA 6 false 1 (.s 15), (some (100, false)), [], false⟩,
     ⟨(some 102), .load false 1 (.s 101), (some (100, false)), [], false⟩,
     ⟨(some 103), .len false (.s 102), (some (100, false)), [], false⟩,
     ⟨(some 104), .bin .eql .num (.s 103) (.c (.int .i64 0)), (some (100, false)), [], false⟩,
     ⟨(some 105), .pick (.s 100) (.c (.bool true)) (.s 104), none, [], false⟩,
     ⟨(some 106), .mv (.s 105), none, [], false⟩,
     ⟨(some 107), .fldA 7 false 1 (.s 15), (some (106, false)), [], false⟩,
     ⟨(some 108), .load false 1 (.s 107), (some (106, false)), [], false⟩,
     ⟨(some 109), .len false (.s 108), (some (106, false)), [], false⟩,
     ⟨(some 110), .bin .eql .num (.s 109) (.c (.int .i64 0)), (some (106, false)), [], false⟩,
     ⟨(some 111), .pick (.s 106) (.c (.bool true)) (.s 110), none, [], false⟩])
   (.cond (.s 111)
    (.seq (.reg [] [⟨(some 8), .mv (.c (.bool false)), none, [], true⟩])
    .ret)
    .skip))
   (.seq (.reg [9, 11, 13, 14, 15] [⟨(some 112), .fldA 0 false 1 (.s 15), none, [], false⟩,
     ⟨(some 113), .load false 1 (.s 112), none, [], false⟩,
     ⟨(some 114), .call (.c (.fn (.func 12) [] [])) [(.s 113)], none, [], false⟩,
     ⟨(some 17), .mv (.s 114), none, [], true⟩])
   (.seq (.draw [9, 11, 13, 14, 15, 17] [⟨(some 115), .load true 3 (.s 11), none, [], false⟩,
     ⟨(some 116), .fldA 1 false 1 (.s 15), none, [], false⟩,
     ⟨(some 117), .load false 1 (.s 116), none, [1], false⟩,
     ⟨(some 118), .call (.c (.fn (.func 12) [] [])) [(.s 117)], none, [2], false⟩,
     ⟨(some 119), .mv (.s 13), none, [], false⟩,
     ⟨(some 120), .call (.c (.fn (.func 18) [] [])) [(.s 115), (.s 118), (.s 119)], none, [0, 3, 4], false⟩,
     ⟨(some 121), .load true 3 (.s 11), none, [], false⟩,
     ⟨(some 122), .fldA 2 false 1 (.s 15), none, [], false⟩,
     ⟨(some 123), .load false 1 (.s 122), none, [7], false⟩,
     ⟨(some 124), .call (.c (.fn (.func 12) [] [])) [(.s 123)], none, [8, 5], false⟩,
     ⟨(some 125), .mv (.s 14), none, [], false⟩,
     ⟨(some 126), .call (.c (.fn (.func 18) [] [])) [(.s 121), (.s 124), (.s 125)], none, [6, 9, 10], false⟩,
     ⟨(some 127), .call (.c (.fn (.func 17) [] [])) [(.s 120), (.s 126)], none, [5, 11], false⟩,
     ⟨(some 18), .mv (.s 127), none, [12, 0, 1, 2, 3, 4, 5, 6, 7, 8, 9, 10, 11], true⟩])
   (.seq (.reg [9, 11, 13, 14, 15, 17, 18] [⟨(some 128), .mv (.s 18), none, [], false⟩,
     ⟨(some 129), .fldA 3 false 1 (.s 15), none, [], false⟩,
     ⟨(some 130), .load false 1 (.s 129), none, [], false⟩,
     ⟨(some 131), .call (.c (.fn (.func 16) [] [])) [(.s 130)], none, [], false⟩,
     ⟨(some 132), .mv (.s 17), none, [], false⟩,
     ⟨(some 133), .call (.c (.fn (.func 15) [] [])) [(.s 131), (.s 132)], none, [], false⟩,
     ⟨(some 134), .call (.c (.fn (.func 23) [] [])) [(.s 128), (.s 133)], none, [], false⟩,
     ⟨(some 19), .mv (.s 134), none, [], true⟩])
   (.seq (.draw [9, 11, 13, 14, 15, 17, 19] [⟨(some 135), .fldA 6 false 1 (.s 15), none, [], false⟩,
     ⟨(some 136), .load false 1 (.s 135), none, [0], false⟩,
     ⟨(some 137), .call (.c (.fn (.func 16) [] [])) [(.s 136)], none, [1], false⟩,
     ⟨(some 138), .mv (.s 13), none, [], false⟩,
     ⟨(some 139), .call (.c (.fn (.func 15) [] [])) [(.s 137), (.s 138)], none, [2, 3], false⟩,
     ⟨(some 140), .load true 3 (.s 11), none, [], false⟩,
     ⟨(some 141), .fldA 4 false 1 (.s 15), none, [], false⟩,
     ⟨(some 142), .load false 1 (.s 141), none, [6], false⟩,
     ⟨(some 143), .call (.c (.fn (.func 12) [] [])) [(.s 142)], none, [7, 4], false⟩,
     ⟨(some 144), .mv (.s 17), none, [], false⟩,
     ⟨(some 145), .call (.c (.fn (.func 18) [] [])) [(.s 140), (.s 143), (.s 144)], none, [5, 8, 9], false⟩,
     ⟨(some 146), .call (.c (.fn (.func 23) [] [])) [(.s 139), (.s 145)], none, [4, 10], false⟩,
     ⟨(some 20), .mv (.s 146), none, [11, 0, 1, 2, 3, 4, 5, 6, 7, 8, 9, 10], true⟩])
   (.seq (.draw [9, 11, 14, 15, 17, 19, 20] [⟨(some 147), .fldA 7 false 1 (.s 15), none, [], false⟩,
     ⟨(some 148), .load false 1 (.s 147), none, [0], false⟩,
     ⟨(some 149), .call (.c (.fn (.func 16) [] [])) [(.s 148)], none, [1], false⟩,
     ⟨(some 150), .mv (.s 14), none, [], false⟩,
     ⟨(some 151), .call (.c (.fn (.func 15) [] [])) [(.s 149), (.s 150)], none, [2, 3], false⟩,
     ⟨(some 152), .load true 3 (.s 11), none, [], false⟩,
     ⟨(some 153), .fldA 5 false 1 (.s 15), none, [], false⟩,
     ⟨(some 154), .load false 1 (.s 153), none, [6], false⟩,
     ⟨(some 155), .call (.c (.fn (.func 12) [] [])) [(.s 154)], none, [7, 4], false⟩,
     ⟨(some 156), .mv (.s 17), none, [], false⟩,
     ⟨(some 157), .call (.c (.fn (.func 18) [] [])) [(.s 152), (.s 155), (.s 156)], none, [5, 8, 9], false⟩,
     ⟨(some 158), .call (.c (.fn (.func 23) [] [])) [(.s 151), (.s 157)], none, [4, 10], false⟩,
     ⟨(some 21), .mv (.s 158), none, [11, 0, 1, 2, 3, 4, 5, 6, 7, 8, 9, 10], true⟩])
   (.seq (.draw [9, 15, 17, 19, 20, 21] [⟨(some 159), .fldA 0 false 1 (.s 15), none, [], false⟩,
     ⟨(some 160), .load false 1 (.s 159), none, [0], false⟩,
     ⟨(some 161), .mv (.s 17), none, [], false⟩,
     ⟨(some 162), .call (.c (.fn (.func 30) [] [])) [(.s 161)], none, [2], false⟩,
     ⟨(some 163), .call (.c (.fn (.func 29) [] [])) [(.s 160), (.s 162)], none, [1, 3], false⟩,
     ⟨(some 22), .mv (.s 163), none, [4, 0, 1, 2, 3], true⟩])
   (.seq (.reg [9, 15, 19, 20, 21, 22] [⟨(some 164), .fldA 0 false 1 (.s 15), none, [], false⟩,
     ⟨(some 165), .load false 1 (.s 164), none, [], false⟩,
     ⟨(some 166), .fldA 1 false 1 (.s 15), none, [], false⟩,
     ⟨(some 167), .load false 1 (.s 166), none, [], false⟩,
     ⟨(some 168), .fldA 2 false 1 (.s 15), none, [], false⟩,
     ⟨(some 169), .load false 1 (.s 168), none, [], false⟩,
     ⟨(some 170), .fldA 4 false 1 (.s 15), none, [], false⟩,
     ⟨(some 171), .load false 1 (.s 170), none, [], false⟩,
     ⟨(some 172), .fldA 5 false 1 (.s 15), none, [], false⟩,
     ⟨(some 173), .load false 1 (.s 172), none, [], false⟩,
     ⟨(some 174), .bsl 1 (.sl .nil []) 5 [(0, (.s 165)), (1, (.s 167)), (2, (.s 169)), (3, (.s 171)), (4, (.s 173))], none, [], false⟩,
     ⟨(some 175), .call (.c (.fn (.func 19) [] [])) [(.s 174)], none, [], false⟩,
     ⟨(some 23), .mv (.s 175), none, [], true⟩])
   (.seq (.reg [9, 19, 20, 21, 22, 23] [⟨(some 176), .mv (.s 9), none, [], false⟩,
     ⟨(some 177), .mv (.s 176), none, [], false⟩,
     ⟨(some 178), .mv (.s 19), (some (177, true)), [], false⟩,
     ⟨(some 179), .pick (.s 177) (.s 178) (.c (.bool false)), none, [], false⟩,
     ⟨(some 180), .mv (.s 179), none, [], false⟩,
     ⟨(some 181), .mv (.s 20), (some (180, true)), [], false⟩,
     ⟨(some 182), .pick (.s 180) (.s 181) (.c (.bool false)), none, [], false⟩,
     ⟨(some 183), .mv (.s 182), none, [], false⟩,
     ⟨(some 184), .mv (.s 21), (some (183, true)), [], false⟩,
     ⟨(some 185), .pick (.s 183) (.s 184) (.c (.bool false)), none, [], false⟩,
     ⟨(some 186), .mv (.s 185), none, [], false⟩,
     ⟨(some 187), .mv (.s 22), (some (186, true)), [], false⟩,
     ⟨(some 188), .pick (.s 186) (.s 187) (.c (.bool false)), none, [], false⟩,
     ⟨(some 189), .mv (.s 188), none, [], false⟩,
     ⟨(some 190), .mv (.s 23), (some (189, true)), [], false⟩,
     ⟨(some 191), .pick (.s 189) (.s 190) (.c (.bool false)), none, [], false⟩,
     ⟨(some 8), .mv (.s 191), none, [], true⟩])
   .ret)))))))))))))))))) }
theorem tr5 : trF Tryz.prog h5 Tryz.f5 = some i5 := by kernel_rfl

-- ashlar/ashlarlaw10.CommonMade
def h6 : List (List Nat) := [[0, 1, 2, 3, 4], [0, 2, 3, 4, 6], [0, 2, 3, 4, 6, 11], [0, 2, 3, 4, 6, 11], [2, 3, 4, 11, 12, 13, 14], [2, 3, 4, 11, 12, 13, 14, 15], [4, 11, 12, 14, 15, 16, 17], [11], [4, 11, 12, 15, 16, 17], [4, 11, 12, 15, 18, 19], [11, 19], [4, 11, 12, 15, 18], [11, 15, 18, 20, 21]]
def i6 : IFn := { nparams := 5, ntmps := 105, results := [.tmp 10], body :=
  (.seq (.reg [0, 1, 2, 3, 4] [⟨(some 6), .box 2 (.s 1), none, [], false⟩,
     ⟨(some 10), .mv (.c (.bool false)), none, [], true⟩])
   (.seq (.reg [0, 2, 3, 4, 6] [⟨(some 22), .call (.c (.fn (.func 9) [] [])) [], none, [], false⟩,
     ⟨(some 11), .mv (.s 22), none, [], true⟩])
   (.seq (.reg [0, 2, 3, 4, 6, 11] [⟨(some 23), .mv (.s 2), none, [], false⟩,
     ⟨(some 24), .call (.c (.fn (.func 24) [] [])) [(.s 23), (.c (.int .i64 1)), (.c (.int .i64 2)), (.c (.int .i64 1))], none, [], false⟩,
     ⟨(some 25), .mv (.s 3), none, [], false⟩,
     ⟨(some 26), .call (.c (.fn (.func 24) [] [])) [(.s 25), (.c (.int .i64 1)), (.c (.int .i64 2)), (.c (.int .i64 1))], none, [], false⟩,
     ⟨(some 27), .mv (.s 4), none, [], false⟩,
     ⟨(some 28), .call (.c (.fn (.func 24) [] [])) [(.s 27), (.c (.int .i64 1)), (.c (.int .i64 2)), (.c (.int .i64 1))], none, [], false⟩,
     ⟨(some 2), .mv (.s 24), none, [], true⟩,
     ⟨(some 3), .mv (.s 26), none, [], true⟩,
     ⟨(some 4), .mv (.s 28), none, [], true⟩])
   (.seq (.reg [0, 2, 3, 4, 6, 11] [⟨(some 30), .mv (.s 0), none, [], false⟩,
     ⟨(some 31), .load true 2 (.s 6), none, [], false⟩,
     ⟨(some 32), .call (.c (.fn (.func 11) [] [])) [(.s 30), (.s 31)], none, [], false⟩,
     ⟨(some 29), .mv (.s 32), none, [], false⟩,
     ⟨(some 33), .extr (.s 29) 0, none, [], false⟩,
     ⟨(some 34), .extr (.s 29) 1, none, [], false⟩,
     ⟨(some 35), .extr (.s 29) 2, none, [], false⟩,
     ⟨(some 13), .alloc 3 (.agg [(.int .i64 0), (.bool false), (.sl .nil [])]), none, [], false⟩,
     ⟨(some 12), .mv (.s 33), none, [], true⟩,
     ⟨none, .store 3 (.s 13) (.s 34), none, [], false⟩,
     ⟨(some 14), .mv (.s 35), none, [], true⟩])
   (.seq (.reg [2, 3, 4, 11, 12, 13, 14] [⟨(some 36), .mv (.s 4), none, [], false⟩,
     ⟨(some 37), .call (.c (.fn (.func 12) [] [])) [(.s 36)], none, [], false⟩,
     ⟨(some 15), .mv (.s 37), none, [], true⟩])
   (.seq (.draw [2, 3, 4, 11, 12, 13, 14, 15] [⟨(some 38), .load true 3 (.s 13), none, [], false⟩,
     ⟨(some 39), .mv (.s 2), none, [], false⟩,
     ⟨(some 40), .call (.c (.fn (.func 12) [] [])) [(.s 39)], none, [1], false⟩,
     ⟨(some 41), .mv (.s 15), none, [], false⟩,
     ⟨(some 42), .call (.c (.fn (.func 18) [] [])) [(.s 38), (.s 40), (.s 41)], none, [0, 2, 3], false⟩,
     ⟨(some 43), .load true 3 (.s 13), none, [], false⟩,
     ⟨(some 44), .mv (.s 3), none, [], false⟩,
     ⟨(some 45), .call (.c (.fn (.func 12) [] [])) [(.s 44)], none, [6, 4], false⟩,
     ⟨(some 46), .mv (.s 15), none, [], false⟩,
     ⟨(some 47), .call (.c (.fn (.func 18) [] [])) [(.s 43), (.s 45), (.s 46)], none, [5, 7, 8], false⟩,
     ⟨(some 16), .mv (.s 42), none, [4, 9, 0, 1, 2, 3], true⟩,
     ⟨(some 17), .mv (.s 47), none, [9, 10, 0, 1, 2, 3, 4, 5, 6, 7, 8], true⟩])
   (.seq (.seq (.reg [4, 11, 12, 14, 15, 16, 17] [⟨(some 48), .mv (.s 14), none, [], false⟩,
     ⟨(some 49), .un .not (.s 48), none, [], false⟩,
     ⟨(some 50), .mv (.s 49), none, [], false⟩,
     ⟨(some 51), .mv (.s 16), (some (50, false)), [], false⟩,
     ⟨(some 52), .len false (.s 51), (some (50, false)), [], false⟩,
     ⟨(some 53), .bin .eql .num (.s 52) (.c (.int .i64 0)), (some (50, false)), [], false⟩,
     ⟨(some 54), .pick (.s 50) (.c (.bool true)) (.s 53), none, [], false⟩,
     ⟨(some 55), .mv (.s 54), none, [], false⟩,
     ⟨(some 56), .mv (.s 17), (some (55, false)), [], false⟩,
     ⟨(some 57), .len false (.s 56), (some (55, false)), [], false⟩,
     ⟨(some 58), .bin .eql .num (.s 57) (.c (.int .i64 0)), (some (55, false)), [], false⟩,
     ⟨(some 59), .pick (.s 55) (.c (.bool true)) (.s 58), none, [], false⟩])
   (.cond (.s 59)
    (.seq (.reg [11] [⟨(some 60), .mv (.s 11), none, [], false⟩,
      ⟨(some 10), .mv (.s 60), none, [], true⟩])
    .ret)
    .skip))
   (.seq (.reg [4, 11, 12, 15, 16, 17] [⟨(some 62), .mv (.s 12), none, [], false⟩,
     ⟨(some 63), .mv (.s 16), none, [], false⟩,
     ⟨(some 64), .call (.c (.fn (.func 26) [] [])) [(.s 63)], none, [], false⟩,
     ⟨(some 65), .mv (.s 17), none, [], false⟩,
     ⟨(some 66), .call (.c (.fn (.func 26) [] [])) [(.s 65)], none, [], false⟩,
     ⟨(some 67), .call (.c (.fn (.func 27) [] [])) [(.s 62), (.s 64), (.s 66)], none, [], false⟩,
     ⟨(some 61), .mv (.s 67), none, [], false⟩,
     ⟨(some 68), .extr (.s 61) 0, none, [], false⟩,
     ⟨(some 69), .extr (.s 61) 1, none, [], false⟩,
     ⟨(some 18), .alloc 8 (.agg [(.sl .nil []), (.sl .nil []), (.sl .nil []), (.sl .nil []), (.sl .nil []), (.sl .nil []), (.sl .nil []), (.sl .nil [])]), none, [], false⟩,
     ⟨none, .store 8 (.s 18) (.s 68), none, [], false⟩,
     ⟨(some 19), .mv (.s 69), none, [], true⟩])
   (.seq (.seq (.reg [4, 11, 12, 15, 18, 19] [⟨(some 70), .mv (.s 19), none, [], false⟩,
     ⟨(some 71), .bin .neq .num (.s 70) (.c (.int .i64 0)), none, [], false⟩])
   (.cond (.s 71)
    (.seq (.reg [11, 19] [⟨(some 72), .mv (.s 11), none, [], false⟩,
      ⟨(some 73), .mv (.s 72), none, [], false⟩,
      ⟨(some 74), .mv (.s 19), (some (73, true)), [], false⟩,
      ⟨(some 75), .bin .eql .num (.s 74) (.c (.int .i64 4)), (some (73, true)), [], false⟩,
      ⟨(some 76), .pick (.s 73) (.s 75) (.c (.bool false)), none, [], false⟩,
      ⟨(some 10), .mv (.s 76), none, [], true⟩])
    .ret)
    .skip))
   (.seq (.reg [4, 11, 12, 15, 18] [⟨(some 78), .mv (.s 12), none, [], false⟩,
     ⟨(some 79), .mv (.s 4), none, [], false⟩,
     ⟨(some 80), .fldA 0 false 1 (.s 18), none, [], false⟩,
     ⟨(some 81), .load false 1 (.s 80), none, [], false⟩,
     ⟨(some 82), .call (.c (.fn (.func 25) [] [])) [(.s 78), (.s 79), (.s 81)], none, [], false⟩,
     ⟨(some 77), .mv (.s 82), none, [], false⟩,
     ⟨(some 83), .extr (.s 77) 0, none, [], false⟩,
     ⟨(some 84), .extr (.s 77) 1, none, [], false⟩,
     ⟨(some 20), .mv (.s 83), none, [], true⟩,
     ⟨(some 21), .mv (.s 84), none, [], true⟩])
   (.seq (.reg [11, 15, 18, 20, 21] [⟨(some 85), .mv (.s 11), none, [], false⟩,
     ⟨(some 86), .mv (.s 85), none, [], false⟩,
     ⟨(some 87), .fldA 0 false 1 (.s 18), (some (86, true)), [], false⟩,
     ⟨(some 88), .load false 1 (.s 87), (some (86, true)), [], false⟩,
     ⟨(some 89), .len false (.s 88), (some (86, true)), [], false⟩,
     ⟨(some 90), .mv (.s 15), (some (86, true)), [], false⟩,
     ⟨(some 91), .len false (.s 90), (some (86, true)), [], false⟩,
     ⟨(some 92), .bin .geq .num (.s 89) (.s 91), (some (86, true)), [], false⟩,
     ⟨(some 93), .pick (.s 86) (.s 92) (.c (.bool false)), none, [], false⟩,
     ⟨(some 94), .mv (.s 93), none, [], false⟩,
     ⟨(some 95), .mv (.s 21), (some (94, true)), [], false⟩,
     ⟨(some 96), .bin .eql .num (.s 95) (.c (.int .i64 4)), (some (94, true)), [], false⟩,
     ⟨(some 97), .mv (.s 96), (some (94, true)), [], false⟩,
     ⟨(some 98), .mv (.s 21), (some (97, false)), [], false⟩,
     ⟨(some 99), .bin .eql .num (.s 98) (.c (.int .i64 0)), (some (97, false)), [], false⟩,
     ⟨(some 100), .mv (.s 99), (some (97, false)), [], false⟩,
     ⟨(some 101), .mv (.s 20), (some (100, true)), [], false⟩,
     ⟨(some 102), .pick (.s 100) (.s 101) (.c (.bool false)), (some (97, false)), [], false⟩,
     ⟨(some 103), .pick (.s 97) (.c (.bool true)) (.s 102), (some (94, true)), [], false⟩,
     ⟨(some 104), .pick (.s 94) (.s 103) (.c (.bool false)), none, [], false⟩,
     ⟨(some 10), .mv (.s 104), none, [], true⟩])
   .ret))))))))))) }
theorem tr6 : trF Tryz.prog h6 Tryz.f6 = some i6 := by kernel_rfl

-- ashlar/ashlarlaw10.MultipleAll
def h7 : List (List Nat) := [[0, 1, 2, 3], [0, 2, 3, 5], [0, 2, 3, 5, 9], [0, 2, 3, 5, 9], [2, 3, 9, 10, 11, 12], [9], [2, 3, 9, 10, 11], [2, 3, 9, 10, 11, 13, 14], [2, 3, 9, 10, 11, 13, 14, 15, 16], [9, 15, 16], [2, 3, 9, 10, 11, 13, 14, 15, 16], [9, 15, 16], [2, 3, 9, 10, 11, 13, 14, 15, 16], [], [2, 3, 9, 10, 11, 13, 14, 15], [2, 3, 9, 10, 11, 13, 14, 15, 17], [2, 3, 9, 10, 11, 13, 14, 15, 17, 18], [2, 3, 9, 10, 13, 14, 15, 17, 18, 19], [9, 13, 14, 15, 17, 18, 19, 20, 21], [9, 13, 14, 17, 18, 19, 20, 21, 22]]
def i7 : IFn := { nparams := 4, ntmps := 159, results := [.tmp 8], body :=
  (.seq (.reg [0, 1, 2, 3] [⟨(some 5), .box 2 (.s 1), none, [], false⟩,
     ⟨(some 8), .mv (.c (.bool false)), none, [], true⟩])
   (.seq (.reg [0, 2, 3, 5] [⟨(some 23), .call (.c (.fn (.func 9) [] [])) [], none, [], false⟩,
     ⟨(some 9), .mv (.s 23), none, [], true⟩])
   (.seq (.reg [0, 2, 3, 5, 9] [⟨(some 24), .mv (.s 2), none, [], false⟩,
     ⟨(some 25), .call (.c (.fn (.func 24) [] [])) [(.s 24), (.c (.int .i64 2)), (.c (.int .i64 2)), (.c (.int .i64 1))], none, [], false⟩,
     ⟨(some 26), .mv (.s 3), none, [], false⟩,
     ⟨(some 27), .call (.c (.fn (.func 24) [] [])) [(.s 26), (.c (.int .i64 2)), (.c (.int .i64 2)), (.c (.int .i64 1))], none, [], false⟩,
     ⟨(some 2), .mv (.s 25), none, [], true⟩,
     ⟨(some 3), .mv (.s 27), none, [], true⟩])
   (.seq (.reg [0, 2, 3, 5, 9] [⟨(some 29), .mv (.s 0), none, [], false⟩,
     ⟨(some 30), .load true 2 (.s 5), none, [], false⟩,
     ⟨(some 31), .call (.c (.fn (.func 11) [] [])) [(.s 29), (.s 30)], none, [], false⟩,
     ⟨(some 28), .mv (.s 31), none, [], false⟩,
     ⟨(some 32), .extr (.s 28) 0, none, [], false⟩,
     ⟨(some 33), .extr (.s 28) 1, none, [], false⟩,
     ⟨(some 34), .extr (.s 28) 2, none, [], false⟩,
     ⟨(some 11), .alloc 3 (.agg [(.int .i64 0), (.bool false), (.sl .nil [])]), none, [], false⟩,
     ⟨(some 10), .mv (.s 32), none, [], true⟩,
     ⟨none, .store 3 (.s 11) (.s 33), none, [], false⟩,
     ⟨(some 12), .mv (.s 34), none, [], true⟩])
   (.seq (.seq (.reg [2, 3, 9, 10, 11, 12] [⟨(some 35), .mv (.s 12), none, [], false⟩,
     ⟨(some 36), .un .not (.s 35), none, [], false⟩])
   (.cond (.s 36)
    (.seq (.reg [9] [⟨(some 37), .mv (.s 9), none, [], false⟩,
      ⟨(some 8), .mv (.s 37), none, [], true⟩])
    .ret)
    .skip))
   (.seq (.reg [2, 3, 9, 10, 11] [⟨(some 38), .mv (.s 2), none, [], false⟩,
     ⟨(some 39), .call (.c (.fn (.func 12) [] [])) [(.s 38)], none, [], false⟩,
     ⟨(some 40), .mv (.s 3), none, [], false⟩,
     ⟨(some 41), .call (.c (.fn (.func 12) [] [])) [(.s 40)], none, [], false⟩,
     ⟨(some 13), .mv (.s 39), none, [], true⟩,
     ⟨(some 14), .mv (.s 41), none, [], true⟩])
   (.seq (.reg [2, 3, 9, 10, 11, 13, 14] [⟨(some 43), .mv (.s 10), none, [], false⟩,
     ⟨(some 44), .mv (.s 2), none, [], false⟩,
     ⟨(some 45), .mv (.s 3), none, [], false⟩,
     ⟨(some 46), .call (.c (.fn (.func 31) [] [])) [(.s 43), (.s 44), (.s 45)], none, [], false⟩,
     ⟨(some 42), .mv (.s 46), none, [], false⟩,
     ⟨(some 47), .extr (.s 42) 0, none, [], false⟩,
     ⟨(some 48), .extr (.s 42) 1, none, [], false⟩,
     ⟨(some 15), .alloc 3 (.agg [(.sl .nil []), (.sl .nil []), (.sl .nil [])]), none, [], false⟩,
     ⟨none, .store 3 (.s 15) (.s 47), none, [], false⟩,
     ⟨(some 16), .mv (.s 48), none, [], true⟩])
   (.seq (.seq (.reg [2, 3, 9, 10, 11, 13, 14, 15, 16] [⟨(some 49), .mv (.s 13), none, [], false⟩,
     ⟨(some 50), .len false (.s 49), none, [], false⟩,
     ⟨(some 51), .bin .eql .num (.s 50) (.c (.int .i64 0)), none, [], false⟩,
     ⟨(some 52), .mv (.s 51), none, [], false⟩,
     ⟨(some 53), .mv (.s 14), (some (52, false)), [], false⟩,
     ⟨(some 54), .len false (.s 53), (some (52, false)), [], false⟩,
     ⟨(some 55), .bin .eql .num (.s 54) (.c (.int .i64 0)), (some (52, false)), [], false⟩,
     ⟨(some 56), .pick (.s 52) (.c (.bool true)) (.s 55), none, [], false⟩])
   (.cond (.s 56)
    (.seq (.reg [9, 15, 16] [⟨(some 57), .mv (.s 9), none, [], false⟩,
      ⟨(some 58), .mv (.s 57), none, [], false⟩,
      ⟨(some 59), .mv (.s 16), (some (58, true)), [], false⟩,
      ⟨(some 60), .bin .eql .num (.s 59) (.c (.int .i64 2)), (some (58, true)), [], false⟩,
      ⟨(some 61), .pick (.s 58) (.s 60) (.c (.bool false)), none, [], false⟩,
      ⟨(some 62), .mv (.s 61), none, [], false⟩,
      ⟨(some 63), .fldA 0 false 1 (.s 15), (some (62, true)), [], false⟩,
      ⟨(some 64), .load false 1 (.s 63), (some (62, true)), [], false⟩,
      ⟨(some 65), .len false (.s 64), (some (62, true)), [], false⟩,
      ⟨(some 66), .bin .eql .num (.s 65) (.c (.int .i64 0)), (some (62, true)), [], false⟩,
      ⟨(some 67), .pick (.s 62) (.s 66) (.c (.bool false)), none, [], false⟩,
      ⟨(some 8), .mv (.s 67), none, [], true⟩])
    .ret)
    .skip))
   (.seq (.seq (.reg [2, 3, 9, 10, 11, 13, 14, 15, 16] [⟨(some 68), .mv (.s 13), none, [], false⟩,
     ⟨(some 69), .mv (.s 14), none, [], false⟩,
     ⟨(some 70), .fldA 1 true 2 (.s 11), none, [], false⟩,
     ⟨(some 71), .load true 2 (.s 70), none, [], false⟩,
     ⟨(some 72), .call (.c (.fn (.func 28) [] [])) [(.s 68), (.s 69), (.s 71)], none, [], false⟩,
     ⟨(some 73), .bin .gtr .num (.s 72) (.c (.int .i64 1048576)), none, [], false⟩])
   (.cond (.s 73)
    (.seq (.reg [9, 15, 16] [⟨(some 74), .mv (.s 9), none, [], false⟩,
      ⟨(some 75), .mv (.s 74), none, [], false⟩,
      ⟨(some 76), .mv (.s 16), (some (75, true)), [], false⟩,
      ⟨(some 77), .bin .eql .num (.s 76) (.c (.int .i64 4)), (some (75, true)), [], false⟩,
      ⟨(some 78), .pick (.s 75) (.s 77) (.c (.bool false)), none, [], false⟩,
      ⟨(some 79), .mv (.s 78), none, [], false⟩,
      ⟨(some 80), .fldA 0 false 1 (.s 15), (some (79, true)), [], false⟩,
      ⟨(some 81), .load false 1 (.s 80), (some (79, true)), [], false⟩,
      ⟨(some 82), .len false (.s 81), (some (79, true)), [], false⟩,
      ⟨(some 83), .bin .eql .num (.s 82) (.c (.int .i64 0)), (some (79, true)), [], false⟩,
      ⟨(some 84), .pick (.s 79) (.s 83) (.c (.bool false)), none, [], false⟩,
      ⟨(some 8), .mv (.s 84), none, [], true⟩])
    .ret)
    .skip))
   (.seq (.seq (.reg [2, 3, 9, 10, 11, 13, 14, 15, 16] [⟨(some 85), .mv (.s 16), none, [], false⟩,
     ⟨(some 86), .bin .neq .num (.s 85) (.c (.int .i64 0)), none, [], false⟩,
     ⟨(some 87), .mv (.s 86), none, [], false⟩,
     ⟨(some 88), .fldA 0 false 1 (.s 15), (some (87, false)), [], false⟩,
     ⟨(some 89), .load false 1 (.s 88), (some (87, false)), [], false⟩,
     ⟨(some 90), .len false (.s 89), (some (87, false)), [], false⟩,
     ⟨(some 91), .bin .eql .num (.s 90) (.c (.int .i64 0)), (some (87, false)), [], false⟩,
     ⟨(some 92), .pick (.s 87) (.c (.bool true)) (.s 91), none, [], false⟩])
   (.cond (.s 92)
    (.seq (.reg [] [⟨(some 8), .mv (.c (.bool false)), none, [], true⟩])
    .ret)
    .skip))
   (.seq (.reg [2, 3, 9, 10, 11, 13, 14, 15] [⟨(some 93), .fldA 0 false 1 (.s 15), none, [], false⟩,
     ⟨(some 94), .load false 1 (.s 93), none, [], false⟩,
     ⟨(some 95), .call (.c (.fn (.func 12) [] [])) [(.s 94)], none, [], false⟩,
     ⟨(some 17), .mv (.s 95), none, [], true⟩])
   (.seq (.draw [2, 3, 9, 10, 11, 13, 14, 15, 17] [⟨(some 96), .mv (.s 17), none, [], false⟩,
     ⟨(some 97), .load true 3 (.s 11), none, [], false⟩,
     ⟨(some 98), .fldA 1 false 1 (.s 15), none, [], false⟩,
     ⟨(some 99), .load false 1 (.s 98), none, [2], false⟩,
     ⟨(some 100), .call (.c (.fn (.func 12) [] [])) [(.s 99)], none, [3], false⟩,
     ⟨(some 101), .mv (.s 13), none, [], false⟩,
     ⟨(some 102), .call (.c (.fn (.func 18) [] [])) [(.s 97), (.s 100), (.s 101)], none, [1, 4, 5], false⟩,
     ⟨(some 103), .call (.c (.fn (.func 23) [] [])) [(.s 96), (.s 102)], none, [0, 6], false⟩,
     ⟨(some 18), .mv (.s 103), none, [7, 0, 1, 2, 3, 4, 5, 6], true⟩])
   (.seq (.draw [2, 3, 9, 10, 11, 13, 14, 15, 17, 18] [⟨(some 104), .mv (.s 17), none, [], false⟩,
     ⟨(some 105), .load true 3 (.s 11), none, [], false⟩,
     ⟨(some 106), .fldA 2 false 1 (.s 15), none, [], false⟩,
     ⟨(some 107), .load false 1 (.s 106), none, [2], false⟩,
     ⟨(some 108), .call (.c (.fn (.func 12) [] [])) [(.s 107)], none, [3], false⟩,
     ⟨(some 109), .mv (.s 14), none, [], false⟩,
     ⟨(some 110), .call (.c (.fn (.func 18) [] [])) [(.s 105), (.s 108), (.s 109)], none, [1, 4, 5], false⟩,
     ⟨(some 111), .call (.c (.fn (.func 23) [] [])) [(.s 104), (.s 110)], none, [0, 6], false⟩,
     ⟨(some 19), .mv (.s 111), none, [7, 0, 1, 2, 3, 4, 5, 6], true⟩])
   (.seq (.reg [2, 3, 9, 10, 13, 14, 15, 17, 18, 19] [⟨(some 113), .mv (.s 10), none, [], false⟩,
     ⟨(some 114), .mv (.s 2), none, [], false⟩,
     ⟨(some 115), .mv (.s 3), none, [], false⟩,
     ⟨(some 116), .call (.c (.fn (.func 27) [] [])) [(.s 113), (.s 114), (.s 115)], none, [], false⟩,
     ⟨(some 112), .mv (.s 116), none, [], false⟩,
     ⟨(some 117), .extr (.s 112) 0, none, [], false⟩,
     ⟨(some 118), .extr (.s 112) 1, none, [], false⟩,
     ⟨(some 20), .alloc 8 (.agg [(.sl .nil []), (.sl .nil []), (.sl .nil []), (.sl .nil []), (.sl .nil []), (.sl .nil []), (.sl .nil []), (.sl .nil [])]), none, [], false⟩,
     ⟨none, .store 8 (.s 20) (.s 117), none, [], false⟩,
     ⟨(some 21), .mv (.s 118), none, [], true⟩])
   (.seq (.reg [9, 13, 14, 15, 17, 18, 19, 20, 21] [⟨(some 119), .fldA 0 false 1 (.s 15), none, [], false⟩,
     ⟨(some 120), .load false 1 (.s 119), none, [], false⟩,
     ⟨(some 121), .fldA 1 false 1 (.s 15), none, [], false⟩,
     ⟨(some 122), .load false 1 (.s 121), none, [], false⟩,
     ⟨(some 123), .fldA 2 false 1 (.s 15), none, [], false⟩,
     ⟨(some 124), .load false 1 (.s 123), none, [], false⟩,
     ⟨(some 125), .bsl 1 (.sl .nil []) 3 [(0, (.s 120)), (1, (.s 122)), (2, (.s 124))], none, [], false⟩,
     ⟨(some 126), .call (.c (.fn (.func 19) [] [])) [(.s 125)], none, [], false⟩,
     ⟨(some 22), .mv (.s 126), none, [], true⟩])
   (.seq (.reg [9, 13, 14, 17, 18, 19, 20, 21, 22] [⟨(some 127), .mv (.s 9), none, [], false⟩,
     ⟨(some 128), .mv (.s 127), none, [], false⟩,
     ⟨(some 129), .mv (.s 18), (some (128, true)), [], false⟩,
     ⟨(some 130), .pick (.s 128) (.s 129) (.c (.bool false)), none, [], false⟩,
     ⟨(some 131), .mv (.s 130), none, [], false⟩,
     ⟨(some 132), .mv (.s 19), (some (131, true)), [], false⟩,
     ⟨(some 133), .pick (.s 131) (.s 132) (.c (.bool false)), none, [], false⟩,
     ⟨(some 134), .mv (.s 133), none, [], false⟩,
     ⟨(some 135), .mv (.s 21), (some (134, true)), [], false⟩,
     ⟨(some 136), .bin .eql .num (.s 135) (.c (.int .i64 0)), (some (134, true)), [], false⟩,
     ⟨(some 137), .pick (.s 134) (.s 136) (.c (.bool false)), none, [], false⟩,
     ⟨(some 138), .mv (.s 137), none, [], false⟩,
     ⟨(some 139), .mv (.s 17), (some (138, true)), [], false⟩,
     ⟨(some 140), .len false (.s 139), (some (138, true)), [], false⟩,
     ⟨(some 141), .bin .sub .num (.s 140) (.c (.int .i64 1)), (some (138, true)), [], false⟩,
     ⟨(some 142), .mv (.s 13), (some (138, true)), [], false⟩,
     ⟨(some 143), .len false (.s 142), (some (138, true)), [], false⟩,
     ⟨(some 144), .bin .sub .num (.s 143) (.c (.int .i64 1)), (some (138, true)), [], false⟩,
     ⟨(some 145), .mv (.s 14), (some (138, true)), [], false⟩,
     ⟨(some 146), .len false (.s 145), (some (138, true)), [], false⟩,
     ⟨(some 147), .bin .add .num (.s 144) (.s 146), (some (138, true)), [], false⟩,
     ⟨(some 148), .bin .sub .num (.s 147) (.c (.int .i64 1)), (some (138, true)), [], false⟩,
     ⟨(some 149), .fldA 0 false 1 (.s 20), (some (138, true)), [], false⟩,
     ⟨(some 150), .load false 1 (.s 149), (some (138, true)), [], false⟩,
     ⟨(some 151), .len false (.s 150), (some (138, true)), [], false⟩,
     ⟨(some 152), .bin .sub .num (.s 151) (.c (.int .i64 1)), (some (138, true)), [], false⟩,
     ⟨(some 153), .bin .sub .num (.s 148) (.s 152), (some (138, true)), [], false⟩,
     ⟨(some 154), .bin .eql .num (.s 141) (.s 153), (some (138, true)), [], false⟩,
     ⟨(some 155), .pick (.s 138) (.s 154) (.c (.bool false)), none, [], false⟩,
     ⟨(some 156), .mv (.s 155), none, [], false⟩,
     ⟨(some 157), .mv (.s 22), (some (156, true)), [], false⟩,
     ⟨(some 158), .pick (.s 156) (.s 157) (.c (.bool false)), none, [], false⟩,
     ⟨(some 8), .mv (.s 158), none, [], true⟩])
   .ret)))))))))))))))) }
theorem tr7 : trF Tryz.prog h7 Tryz.f7 = some i7 := by kernel_rfl

-- ashlar/ashlarlaw10.EuclidNone
def h8 : List (List Nat) := [[], [], [1], [1, 2, 3, 4, 5], [1, 2, 3, 4, 5, 6, 7], [1, 2, 3, 4, 5, 6, 7, 8, 9], [2, 3, 4, 5, 6, 7, 8, 9, 10, 11]]
def i8 : IFn := { nparams := 0, ntmps := 90, results := [.tmp 0], body :=
  (.seq (.reg [] [⟨(some 0), .mv (.c (.bool false)), none, [], true⟩])
   (.seq (.reg [] [⟨(some 12), .bsl 1 (.int .i64 0) 1 [(0, (.c (.int .i64 1)))], none, [], false⟩,
     ⟨(some 13), .call (.c (.fn (.func 22) [] [])) [(.s 12)], none, [], false⟩,
     ⟨(some 14), .bsl 1 (.sl .nil []) 1 [(0, (.s 13))], none, [], false⟩,
     ⟨(some 15), .call (.c (.fn (.func 32) [] [])) [(.s 14)], none, [], false⟩,
     ⟨(some 1), .mv (.s 15), none, [], true⟩])
   (.seq (.reg [1] [⟨(some 17), .mv (.s 1), none, [], false⟩,
     ⟨(some 18), .mv (.s 1), none, [], false⟩,
     ⟨(some 19), .call (.c (.fn (.func 13) [] [])) [(.c .nilPtr), (.s 17), (.s 18)], none, [], false⟩,
     ⟨(some 16), .mv (.s 19), none, [], false⟩,
     ⟨(some 20), .extr (.s 16) 0, none, [], false⟩,
     ⟨(some 21), .extr (.s 16) 1, none, [], false⟩,
     ⟨(some 22), .extr (.s 16) 2, none, [], false⟩,
     ⟨(some 23), .extr (.s 16) 3, none, [], false⟩,
     ⟨(some 2), .mv (.s 20), none, [], true⟩,
     ⟨(some 3), .mv (.s 21), none, [], true⟩,
     ⟨(some 4), .mv (.s 22), none, [], true⟩,
     ⟨(some 5), .mv (.s 23), none, [], true⟩])
   (.seq (.reg [1, 2, 3, 4, 5] [⟨(some 25), .mv (.s 1), none, [], false⟩,
     ⟨(some 26), .mv (.s 1), none, [], false⟩,
     ⟨(some 27), .call (.c (.fn (.func 25) [] [])) [(.c .nilPtr), (.s 25), (.s 26)], none, [], false⟩,
     ⟨(some 24), .mv (.s 27), none, [], false⟩,
     ⟨(some 28), .extr (.s 24) 0, none, [], false⟩,
     ⟨(some 29), .extr (.s 24) 1, none, [], false⟩,
     ⟨(some 6), .mv (.s 28), none, [], true⟩,
     ⟨(some 7), .mv (.s 29), none, [], true⟩])
   (.seq (.reg [1, 2, 3, 4, 5, 6, 7] [⟨(some 31), .mv (.s 1), none, [], false⟩,
     ⟨(some 32), .mv (.s 1), none, [], false⟩,
     ⟨(some 33), .call (.c (.fn (.func 27) [] [])) [(.c .nilPtr), (.s 31), (.s 32)], none, [], false⟩,
     ⟨(some 30), .mv (.s 33), none, [], false⟩,
     ⟨(some 34), .extr (.s 30) 0, none, [], false⟩,
     ⟨(some 35), .extr (.s 30) 1, none, [], false⟩,
     ⟨(some 8), .alloc 8 (.agg [(.sl .nil []), (.sl .nil []), (.sl .nil []), (.sl .nil []), (.sl .nil []), (.sl .nil []), (.sl .nil []), (.sl .nil [])]), none, [], false⟩,
     ⟨none, .store 8 (.s 8) (.s 34), none, [], false⟩,
     ⟨(some 9), .mv (.s 35), none, [], true⟩])
   (.seq (.reg [1, 2, 3, 4, 5, 6, 7, 8, 9] [⟨(some 37), .mv (.s 1), none, [], false⟩,
     ⟨(some 38), .mv (.s 1), none, [], false⟩,
     ⟨(some 39), .call (.c (.fn (.func 31) [] [])) [(.c .nilPtr), (.s 37), (.s 38)], none, [], false⟩,
     ⟨(some 36), .mv (.s 39), none, [], false⟩,
     ⟨(some 40), .extr (.s 36) 0, none, [], false⟩,
     ⟨(some 41), .extr (.s 36) 1, none, [], false⟩,
     ⟨(some 10), .alloc 3 (.agg [(.sl .nil []), (.sl .nil []), (.sl .nil [])]), none, [], false⟩,
     ⟨none, .store 3 (.s 10) (.s 40), none, [], false⟩,
     ⟨(some 11), .mv (.s 41), none, [], true⟩])
   (.seq (.reg [2, 3, 4, 5, 6, 7, 8, 9, 10, 11] [⟨(some 42), .call (.c (.fn (.func 9) [] [])) [], none, [], false⟩,
     ⟨(some 43), .mv (.s 42), none, [], false⟩,
     ⟨(some 44), .mv (.s 5), (some (43, true)), [], false⟩,
     ⟨(some 45), .bin .eql .num (.s 44) (.c (.int .i64 1)), (some (43, true)), [], false⟩,
     ⟨(some 46), .pick (.s 43) (.s 45) (.c (.bool false)), none, [], false⟩,
     ⟨(some 47), .mv (.s 46), none, [], false⟩,
     ⟨(some 48), .mv (.s 2), (some (47, true)), [], false⟩,
     ⟨(some 49), .len false (.s 48), (some (47, true)), [], false⟩,
     ⟨(some 50), .bin .eql .num (.s 49) (.c (.int .i64 0)), (some (47, true)), [], false⟩,
     ⟨(some 51), .pick (.s 47) (.s 50) (.c (.bool false)), none, [], false⟩,
     ⟨(some 52), .mv (.s 51), none, [], false⟩,
     ⟨(some 53), .mv (.s 3), (some (52, true)), [], false⟩,
     ⟨(some 54), .len false (.s 53), (some (52, true)), [], false⟩,
     ⟨(some 55), .bin .eql .num (.s 54) (.c (.int .i64 0)), (some (52, true)), [], false⟩,
     ⟨(some 56), .pick (.s 52) (.s 55) (.c (.bool false)), none, [], false⟩,
     ⟨(some 57), .mv (.s 56), none, [], false⟩,
     ⟨(some 58), .mv (.s 4), (some (57, true)), [], false⟩,
     ⟨(some 59), .len false (.s 58), (some (57, true)), [], false⟩,
     ⟨(some 60), .bin .eql .num (.s 59) (.c (.int .i64 0)), (some (57, true)), [], false⟩,
     ⟨(some 61), .pick (.s 57) (.s 60) (.c (.bool false)), none, [], false⟩,
     ⟨(some 62), .mv (.s 61), none, [], false⟩,
     ⟨(some 63), .mv (.s 7), (some (62, true)), [], false⟩,
     ⟨(some 64), .bin .eql .num (.s 63) (.c (.int .i64 1)), (some (62, true)), [], false⟩,
     ⟨(some 65), .pick (.s 62) (.s 64) (.c (.bool false)), none, [], false⟩,
     ⟨(some 66), .mv (.s 65), none, [], false⟩,
     ⟨(some 67), .mv (.s 6), (some (66, true)), [], false⟩,
     ⟨(some 68), .un .not (.s 67), (some (66, true)), [], false⟩,
     ⟨(some 69), .pick (.s 66) (.s 68) (.c (.bool false)), none, [], false⟩,
     ⟨(some 70), .mv (.s 69), none, [], false⟩,
     ⟨(some 71), .mv (.s 9), (some (70, true)), [], false⟩,
     ⟨(some 72), .bin .eql .num (.s 71) (.c (.int .i64 1)), (some (70, true)), [], false⟩,
     ⟨(some 73), .pick (.s 70) (.s 72) (.c (.bool false)), none, [], false⟩,
     ⟨(some 74), .mv (.s 73), none, [], false⟩,
     ⟨(some 75), .fldA 0 false 1 (.s 8), (some (74, true)), [], false⟩,
     ⟨(some 76), .load false 1 (.s 75), (some (74, true)), [], false⟩,
     ⟨(some 77), .len false (.s 76), (some (74, true)), [], false⟩,
     ⟨(some 78), .bin .eql .num (.s 77) (.c (.int .i64 0)), (some (74, true)), [], false⟩,
     ⟨(some 79), .pick (.s 74) (.s 78) (.c (.bool false)), none, [], false⟩,
     ⟨(some 80), .mv (.s 79), none, [], false⟩,
     ⟨(some 81), .mv (.s 11), (some (80, true)), [], false⟩,
     ⟨(some 82), .bin .eql .num (.s 81) (.c (.int .i64 1)), (some (80, true)), [], false⟩,
     ⟨(some 83), .pick (.s 80) (.s 82) (.c (.bool false)), none, [], false⟩,
     ⟨(some 84), .mv (.s 83), none, [], false⟩,
     ⟨(some 85), .fldA 0 false 1 (.s 10), (some (84, true)), [], false⟩,
     ⟨(some 86), .load false 1 (.s 85), (some (84, true)), [], false⟩,
     ⟨(some 87), .len false (.s 86), (some (84, true)), [], false⟩,
     ⟨(some 88), .bin .eql .num (.s 87) (.c (.int .i64 0)), (some (84, true)), [], false⟩,
     ⟨(some 89), .pick (.s 84) (.s 88) (.c (.bool false)), none, [], false⟩,
     ⟨(some 0), .mv (.s 89), none, [], true⟩])
   .ret))))))) }
theorem tr8 : trF Tryz.prog h8 Tryz.f8 = some i8 := by kernel_rfl

-- ashlar/ashlarlaw10.begun
def h9 : List (List Nat) := [[], [], [1, 2], [], [1], [1, 3], [1, 3, 4], [1, 3, 4, 5, 6, 7, 8], [1, 3, 4, 5, 6, 7, 8, 9, 10], [1, 3, 4, 5, 6, 7, 8, 9, 10, 11, 12], [5, 6, 7, 8, 9, 10, 11, 12, 13, 14]]
def i9 : IFn := { nparams := 0, ntmps := 112, results := [.tmp 0], body :=
  (.seq (.reg [] [⟨(some 0), .mv (.c (.bool false)), none, [], true⟩])
   (.seq (.reg [] [⟨(some 16), .build [(.bool false), (.sl .nil [])] [], none, [], false⟩,
     ⟨(some 17), .call (.c (.fn (.func 33) [] [])) [(.c (.int .i64 1)), (.s 16)], none, [], false⟩,
     ⟨(some 15), .mv (.s 17), none, [], false⟩,
     ⟨(some 18), .extr (.s 15) 0, none, [], false⟩,
     ⟨(some 19), .extr (.s 15) 1, none, [], false⟩,
     ⟨(some 1), .mv (.s 18), none, [], true⟩,
     ⟨(some 2), .mv (.s 19), none, [], true⟩])
   (.seq (.seq (.reg [1, 2] [⟨(some 20), .mv (.s 2), none, [], false⟩,
     ⟨(some 21), .bin .neq .num (.s 20) (.c (.int .i64 0)), none, [], false⟩,
     ⟨(some 22), .mv (.s 21), none, [], false⟩,
     ⟨(some 23), .mv (.s 1), (some (22, false)), [], false⟩,
     ⟨(some 24), .bin .eql .ptr (.s 23) (.c .nilPtr), (some (22, false)), [], false⟩,
     ⟨(some 25), .pick (.s 22) (.c (.bool true)) (.s 24), none, [], false⟩])
   (.cond (.s 25)
    (.seq (.reg [] [⟨(some 0), .mv (.c (.bool false)), none, [], true⟩])
    .ret)
    .skip))
   (.seq (.reg [1] [⟨(some 26), .bsl 1 (.int .i64 0) 1 [(0, (.c (.int .i64 (-1))))], none, [], false⟩,
     ⟨(some 27), .call (.c (.fn (.func 22) [] [])) [(.s 26)], none, [], false⟩,
     ⟨(some 28), .bsl 1 (.int .i64 0) 1 [(0, (.c (.int .i64 1)))], none, [], false⟩,
     ⟨(some 29), .call (.c (.fn (.func 22) [] [])) [(.s 28)], none, [], false⟩,
     ⟨(some 30), .bsl 1 (.sl .nil []) 3 [(0, (.s 27)), (1, (.c (.sl .nil []))), (2, (.s 29))], none, [], false⟩,
     ⟨(some 31), .call (.c (.fn (.func 32) [] [])) [(.s 30)], none, [], false⟩,
     ⟨(some 3), .mv (.s 31), none, [], true⟩])
   (.seq (.reg [1, 3] [⟨(some 32), .bsl 1 (.int .i64 0) 1 [(0, (.c (.int .i64 (-1))))], none, [], false⟩,
     ⟨(some 33), .call (.c (.fn (.func 22) [] [])) [(.s 32)], none, [], false⟩,
     ⟨(some 34), .bsl 1 (.int .i64 0) 1 [(0, (.c (.int .i64 1)))], none, [], false⟩,
     ⟨(some 35), .call (.c (.fn (.func 22) [] [])) [(.s 34)], none, [], false⟩,
     ⟨(some 36), .bsl 1 (.sl .nil []) 2 [(0, (.s 33)), (1, (.s 35))], none, [], false⟩,
     ⟨(some 37), .call (.c (.fn (.func 32) [] [])) [(.s 36)], none, [], false⟩,
     ⟨(some 4), .mv (.s 37), none, [], true⟩])
   (.seq (.reg [1, 3, 4] [⟨(some 39), .mv (.s 1), none, [], false⟩,
     ⟨(some 40), .mv (.s 3), none, [], false⟩,
     ⟨(some 41), .mv (.s 4), none, [], false⟩,
     ⟨(some 42), .call (.c (.fn (.func 13) [] [])) [(.s 39), (.s 40), (.s 41)], none, [], false⟩,
     ⟨(some 38), .mv (.s 42), none, [], false⟩,
     ⟨(some 43), .extr (.s 38) 0, none, [], false⟩,
     ⟨(some 44), .extr (.s 38) 1, none, [], false⟩,
     ⟨(some 45), .extr (.s 38) 2, none, [], false⟩,
     ⟨(some 46), .extr (.s 38) 3, none, [], false⟩,
     ⟨(some 5), .mv (.s 43), none, [], true⟩,
     ⟨(some 6), .mv (.s 44), none, [], true⟩,
     ⟨(some 7), .mv (.s 45), none, [], true⟩,
     ⟨(some 8), .mv (.s 46), none, [], true⟩])
   (.seq (.reg [1, 3, 4, 5, 6, 7, 8] [⟨(some 48), .mv (.s 1), none, [], false⟩,
     ⟨(some 49), .mv (.s 3), none, [], false⟩,
     ⟨(some 50), .mv (.s 4), none, [], false⟩,
     ⟨(some 51), .call (.c (.fn (.func 27) [] [])) [(.s 48), (.s 49), (.s 50)], none, [], false⟩,
     ⟨(some 47), .mv (.s 51), none, [], false⟩,
     ⟨(some 52), .extr (.s 47) 0, none, [], false⟩,
     ⟨(some 53), .extr (.s 47) 1, none, [], false⟩,
     ⟨(some 9), .alloc 8 (.agg [(.sl .nil []), (.sl .nil []), (.sl .nil []), (.sl .nil []), (.sl .nil []), (.sl .nil []), (.sl .nil []), (.sl .nil [])]), none, [], false⟩,
     ⟨none, .store 8 (.s 9) (.s 52), none, [], false⟩,
     ⟨(some 10), .mv (.s 53), none, [], true⟩])
   (.seq (.reg [1, 3, 4, 5, 6, 7, 8, 9, 10] [⟨(some 55), .mv (.s 1), none, [], false⟩,
     ⟨(some 56), .mv (.s 3), none, [], false⟩,
     ⟨(some 57), .mv (.s 4), none, [], false⟩,
     ⟨(some 58), .call (.c (.fn (.func 31) [] [])) [(.s 55), (.s 56), (.s 57)], none, [], false⟩,
     ⟨(some 54), .mv (.s 58), none, [], false⟩,
     ⟨(some 59), .extr (.s 54) 0, none, [], false⟩,
     ⟨(some 60), .extr (.s 54) 1, none, [], false⟩,
     ⟨(some 11), .alloc 3 (.agg [(.sl .nil []), (.sl .nil []), (.sl .nil [])]), none, [], false⟩,
     ⟨none, .store 3 (.s 11) (.s 59), none, [], false⟩,
     ⟨(some 12), .mv (.s 60), none, [], true⟩])
   (.seq (.reg [1, 3, 4, 5, 6, 7, 8, 9, 10, 11, 12] [⟨(some 62), .mv (.s 1), none, [], false⟩,
     ⟨(some 63), .mv (.s 4), none, [], false⟩,
     ⟨(some 64), .mv (.s 3), none, [], false⟩,
     ⟨(some 65), .call (.c (.fn (.func 25) [] [])) [(.s 62), (.s 63), (.s 64)], none, [], false⟩,
     ⟨(some 61), .mv (.s 65), none, [], false⟩,
     ⟨(some 66), .extr (.s 61) 0, none, [], false⟩,
     ⟨(some 67), .extr (.s 61) 1, none, [], false⟩,
     ⟨(some 13), .mv (.s 66), none, [], true⟩,
     ⟨(some 14), .mv (.s 67), none, [], true⟩])
   (.seq (.reg [5, 6, 7, 8, 9, 10, 11, 12, 13, 14] [⟨(some 68), .mv (.s 8), none, [], false⟩,
     ⟨(some 69), .bin .eql .num (.s 68) (.c (.int .i64 0)), none, [], false⟩,
     ⟨(some 70), .mv (.s 69), none, [], false⟩,
     ⟨(some 71), .mv (.s 5), (some (70, true)), [], false⟩,
     ⟨(some 72), .len false (.s 71), (some (70, true)), [], false⟩,
     ⟨(some 73), .bin .gtr .num (.s 72) (.c (.int .i64 0)), (some (70, true)), [], false⟩,
     ⟨(some 74), .pick (.s 70) (.s 73) (.c (.bool false)), none, [], false⟩,
     ⟨(some 75), .mv (.s 74), none, [], false⟩,
     ⟨(some 76), .mv (.s 6), (some (75, true)), [], false⟩,
     ⟨(some 77), .len false (.s 76), (some (75, true)), [], false⟩,
     ⟨(some 78), .bin .eql .num (.s 77) (.c (.int .i64 2)), (some (75, true)), [], false⟩,
     ⟨(some 79), .pick (.s 75) (.s 78) (.c (.bool false)), none, [], false⟩,
     ⟨(some 80), .mv (.s 79), none, [], false⟩,
     ⟨(some 81), .mv (.s 7), (some (80, true)), [], false⟩,
     ⟨(some 82), .len false (.s 81), (some (80, true)), [], false⟩,
     ⟨(some 83), .bin .eql .num (.s 82) (.c (.int .i64 0)), (some (80, true)), [], false⟩,
     ⟨(some 84), .pick (.s 80) (.s 83) (.c (.bool false)), none, [], false⟩,
     ⟨(some 85), .mv (.s 84), none, [], false⟩,
     ⟨(some 86), .mv (.s 10), (some (85, true)), [], false⟩,
     ⟨(some 87), .bin .eql .num (.s 86) (.c (.int .i64 0)), (some (85, true)), [], false⟩,
     ⟨(some 88), .pick (.s 85) (.s 87) (.c (.bool false)), none, [], false⟩,
     ⟨(some 89), .mv (.s 88), none, [], false⟩,
     ⟨(some 90), .fldA 0 false 1 (.s 9), (some (89, true)), [], false⟩,
     ⟨(some 91), .load false 1 (.s 90), (some (89, true)), [], false⟩,
     ⟨(some 92), .len false (.s 91), (some (89, true)), [], false⟩,
     ⟨(some 93), .bin .eql .num (.s 92) (.c (.int .i64 2)), (some (89, true)), [], false⟩,
     ⟨(some 94), .pick (.s 89) (.s 93) (.c (.bool false)), none, [], false⟩,
     ⟨(some 95), .mv (.s 94), none, [], false⟩,
     ⟨(some 96), .mv (.s 12), (some (95, true)), [], false⟩,
     ⟨(some 97), .bin .eql .num (.s 96) (.c (.int .i64 0)), (some (95, true)), [], false⟩,
     ⟨(some 98), .pick (.s 95) (.s 97) (.c (.bool false)), none, [], false⟩,
     ⟨(some 99), .mv (.s 98), none, [], false⟩,
     ⟨(some 100), .fldA 0 false 1 (.s 11), (some (99, true)), [], false⟩,
     ⟨(some 101), .load false 1 (.s 100), (some (99, true)), [], false⟩,
     ⟨(some 102), .len false (.s 101), (some (99, true)), [], false⟩,
     ⟨(some 103), .bin .eql .num (.s 102) (.c (.int .i64 3)), (some (99, true)), [], false⟩,
     ⟨(some 104), .pick (.s 99) (.s 103) (.c (.bool false)), none, [], false⟩,
     ⟨(some 105), .mv (.s 104), none, [], false⟩,
     ⟨(some 106), .mv (.s 14), (some (105, true)), [], false⟩,
     ⟨(some 107), .bin .eql .num (.s 106) (.c (.int .i64 0)), (some (105, true)), [], false⟩,
     ⟨(some 108), .pick (.s 105) (.s 107) (.c (.bool false)), none, [], false⟩,
     ⟨(some 109), .mv (.s 108), none, [], false⟩,
     ⟨(some 110), .mv (.s 13), (some (109, true)), [], false⟩,
     ⟨(some 111), .pick (.s 109) (.s 110) (.c (.bool false)), none, [], false⟩,
     ⟨(some 0), .mv (.s 111), none, [], true⟩])
   .ret)))))))))) }
theorem tr9 : trF Tryz.prog h9 Tryz.f9 = some i9 := by kernel_rfl

-- ashlar/ashlarlaw10.small
def h10 : List (List Nat) := [[0], [0]]
def i10 : IFn := { nparams := 1, ntmps := 5, results := [.tmp 2], body :=
  (.seq (.reg [0] [⟨(some 2), .mv (.c (.sl .nil [])), none, [], true⟩])
   (.seq (.reg [0] [⟨(some 3), .mv (.s 0), none, [], false⟩,
     ⟨(some 4), .call (.c (.fn (.func 24) [] [])) [(.s 3), (.c (.int .i64 3)), (.c (.int .i64 3)), (.c (.int .i64 1))], none, [], false⟩,
     ⟨(some 2), .mv (.s 4), none, [], true⟩])
   .ret)) }
theorem tr10 : trF Tryz.prog h10 Tryz.f10 = some i10 := by kernel_rfl

-- ashlar/ashlarlaw8.Rule
def h11 : List (List Nat) := [[0, 1], [0, 3, 5], [0, 5, 7], [0, 5, 7, 8, 9], [5], [0, 5, 7, 8], [0, 5, 7, 8, 10], [0, 5, 7, 8, 10], [0, 5, 8, 10]]
def i11 : IFn := { nparams := 2, ntmps := 38, results := [.tmp 4, .cell 5 true 3, .tmp 6], body :=
  (.seq (.reg [0, 1] [⟨(some 3), .box 2 (.s 1), none, [], false⟩,
     ⟨(some 4), .mv (.c .nilPtr), none, [], true⟩,
     ⟨(some 5), .alloc 3 (.agg [(.int .i64 0), (.bool false), (.sl .nil [])]), none, [], false⟩,
     ⟨(some 6), .mv (.c (.bool false)), none, [], true⟩])
   (.seq (.reg [0, 3, 5] [⟨(some 11), .load true 2 (.s 3), none, [], false⟩,
     ⟨(some 12), .bsl 2 (.agg [(.bool false), (.sl .nil [])]) 1 [(0, (.s 11))], none, [], false⟩,
     ⟨(some 13), .call (.c (.fn (.func 34) [] [])) [(.s 12), (.c (.int .i64 1)), (.c (.int .i64 1))], none, [], false⟩,
     ⟨(some 14), .idxA 2 (.s 13) (.c (.int .i64 0)), none, [], false⟩,
     ⟨(some 15), .load true 2 (.s 14), none, [], false⟩,
     ⟨(some 7), .alloc 2 (.agg [(.bool false), (.sl .nil [])]), none, [], false⟩,
     ⟨none, .store 2 (.s 7) (.s 15), none, [], false⟩])
   (.seq (.reg [0, 5, 7] [⟨(some 17), .mv (.s 0), none, [], false⟩,
     ⟨(some 18), .load true 2 (.s 7), none, [], false⟩,
     ⟨(some 19), .call (.c (.fn (.func 33) [] [])) [(.s 17), (.s 18)], none, [], false⟩,
     ⟨(some 16), .mv (.s 19), none, [], false⟩,
     ⟨(some 20), .extr (.s 16) 0, none, [], false⟩,
     ⟨(some 21), .extr (.s 16) 1, none, [], false⟩,
     ⟨(some 8), .mv (.s 20), none, [], true⟩,
     ⟨(some 9), .mv (.s 21), none, [], true⟩])
   (.seq (.seq (.reg [0, 5, 7, 8, 9] [⟨(some 22), .mv (.s 9), none, [], false⟩,
     ⟨(some 23), .bin .neq .num (.s 22) (.c (.int .i64 0)), none, [], false⟩,
     ⟨(some 24), .mv (.s 23), none, [], false⟩,
     ⟨(some 25), .mv (.s 8), (some (24, false)), [], false⟩,
     ⟨(some 26), .bin .eql .ptr (.s 25) (.c .nilPtr), (some (24, false)), [], false⟩,
     ⟨(some 27), .pick (.s 24) (.c (.bool true)) (.s 26), none, [], false⟩])
   (.cond (.s 27)
    (.seq (.reg [5] [⟨(some 28), .build [(.int .i64 0), (.bool false), (.sl .nil [])] [], none, [], false⟩,
      ⟨(some 4), .mv (.c .nilPtr), none, [], true⟩,
      ⟨none, .store 3 (.s 5) (.s 28), none, [], false⟩,
      ⟨(some 6), .mv (.c (.bool false)), none, [], true⟩])
    .ret)
    .skip))
   (.seq (.reg [0, 5, 7, 8] [⟨(some 29), .call (.c (.fn (.func 35) [] [])) [(.c (.int .i64 0))], none, [], false⟩,
     ⟨(some 10), .alloc 2 (.agg [(.bool false), (.sl .nil [])]), none, [], false⟩,
     ⟨none, .store 2 (.s 10) (.s 29), none, [], false⟩])
   (.seq (.seq (.reg [0, 5, 7, 8, 10] [⟨(some 30), .mv (.s 0), none, [], false⟩,
     ⟨(some 31), .bin .eql .num (.s 30) (.c (.int .i64 3)), none, [], false⟩])
   (.cond (.s 31)
    (.reg [0, 5, 7, 8, 10] [⟨(some 32), .load true 2 (.s 7), none, [], false⟩,
      ⟨(some 33), .call (.c (.fn (.func 36) [] [])) [(.s 32)], none, [], false⟩,
      ⟨none, .store 2 (.s 10) (.s 33), none, [], false⟩])
    .skip))
   (.seq (.draw [0, 5, 8, 10] [⟨(some 34), .mv (.s 8), none, [], false⟩,
     ⟨(some 35), .mv (.s 0), none, [], false⟩,
     ⟨(some 36), .load true 2 (.s 10), none, [], false⟩,
     ⟨(some 37), .build [(.int .i64 0), (.bool false), (.sl .nil [])] [(0, 1, (.s 35)), (1, 2, (.s 36))], none, [1, 2], false⟩,
     ⟨(some 4), .mv (.s 34), none, [0], true⟩,
     ⟨none, .store 3 (.s 5) (.s 37), none, [3, 4, 0, 1, 2], false⟩,
     ⟨(some 6), .mv (.c (.bool true)), none, [5, 0, 1, 2, 3, 4], true⟩])
   .ret))))))) }
theorem tr11 : trF Tryz.prog h11 Tryz.f11 = some i11 := by kernel_rfl

-- ashlar/ashlarref8.From
def h12 : List (List Nat) := [[0], [0], [0, 3], [0, 3, 4], [0, 3, 4], [0, 3, 4], [0, 3, 4], [3]]
def i12b0 : ICode :=
  (.seq (.seq (.reg [0, 3, 4] [⟨(some 5), .mv (.s 4), none, [], false⟩,
    ⟨(some 6), .mv (.s 0), none, [], false⟩,
    ⟨(some 7), .len false (.s 6), none, [], false⟩,
    ⟨(some 8), .bin .lss .num (.s 5) (.s 7), none, [], false⟩])
  (.cond (.s 8)
   .skip
   (.exit 0)))
  (.seq (.block 1
   (.reg [0, 3, 4] [⟨(some 11), .mv (.s 3), none, [], false⟩,
     ⟨(some 12), .mv (.s 0), none, [], false⟩,
     ⟨(some 13), .mv (.s 4), none, [], false⟩,
     ⟨(some 14), .idxA 1 (.s 12) (.s 13), none, [], false⟩,
     ⟨(some 15), .load false 1 (.s 14), none, [], false⟩,
     ⟨(some 16), .call (.c (.fn (.func 16) [] [])) [(.s 15)], none, [], false⟩,
     ⟨(some 17), .bsl 1 (.sl .nil []) 1 [(0, (.s 16))], none, [], false⟩,
     ⟨(some 18), .app 1 24 (.s 11) (.s 17), none, [], false⟩,
     ⟨(some 3), .mv (.s 18), none, [], true⟩]))
  (.reg [0, 3, 4] [⟨(some 9), .mv (.s 4), none, [], false⟩,
    ⟨(some 10), .bin .add .num (.s 9) (.c (.int .i64 1)), none, [], false⟩,
    ⟨(some 4), .mv (.s 10), none, [], true⟩])))
def i12 : IFn := { nparams := 1, ntmps := 21, results := [.tmp 2], body :=
  (.seq (.reg [0] [⟨(some 2), .mv (.c (.sl .nil [])), none, [], true⟩])
   (.seq (.reg [0] [⟨(some 3), .mv (.c (.sl .nil [])), none, [], true⟩])
   (.seq (.seq (.reg [0, 3] [⟨(some 4), .mv (.c (.int .i64 0)), none, [], true⟩])
   (.block 0
    (.loop [0, 3, 4] i12b0)))
   (.seq (.reg [3] [⟨(some 19), .mv (.s 3), none, [], false⟩,
     ⟨(some 20), .call (.c (.fn (.func 37) [] [])) [(.s 19)], none, [], false⟩,
     ⟨(some 2), .mv (.s 20), none, [], true⟩])
   .ret)))) }
theorem tr12 : trF Tryz.prog h12 Tryz.f12 = some i12 := by kernel_rfl

-- ashlar/euclid.Divide
def h13 : List (List Nat) := [[0, 1, 2], [0, 1, 2], [0, 1, 2, 10], [10], [0, 1, 2], [11, 12, 13]]
def i13 : IFn := { nparams := 3, ntmps := 36, results := [.tmp 6, .tmp 7, .tmp 8, .tmp 9], body :=
  (.seq (.reg [0, 1, 2] [⟨(some 6), .mv (.c (.sl .nil [])), none, [], true⟩,
     ⟨(some 7), .mv (.c (.sl .nil [])), none, [], true⟩,
     ⟨(some 8), .mv (.c (.sl .nil [])), none, [], true⟩,
     ⟨(some 9), .mv (.c (.int .i64 0)), none, [], true⟩])
   (.seq (.seq (.reg [0, 1, 2] [⟨(some 14), .mv (.s 0), none, [], false⟩,
     ⟨(some 15), .mv (.s 2), none, [], false⟩,
     ⟨(some 16), .call (.c (.fn (.func 39) [] [])) [(.s 15)], none, [], false⟩,
     ⟨(some 17), .bin .lss .num (.s 16) (.c (.int .i64 0)), none, [], false⟩,
     ⟨(some 18), .mv (.s 1), none, [], false⟩,
     ⟨(some 19), .mv (.s 2), none, [], false⟩,
     ⟨(some 20), .call (.c (.fn (.func 38) [] [])) [(.s 14), (.s 17), (.c (.fn (.func 40) [] [])), (.s 18), (.s 19)], none, [], false⟩,
     ⟨(some 10), .mv (.s 20), none, [], true⟩])
   (.seq (.reg [0, 1, 2, 10] [⟨(some 21), .mv (.s 10), none, [], false⟩,
     ⟨(some 22), .bin .neq .num (.s 21) (.c (.int .i64 0)), none, [], false⟩])
   (.cond (.s 22)
    (.seq (.reg [10] [⟨(some 23), .mv (.s 10), none, [], false⟩,
      ⟨(some 6), .mv (.c (.sl .nil [])), none, [], true⟩,
      ⟨(some 7), .mv (.c (.sl .nil [])), none, [], true⟩,
      ⟨(some 8), .mv (.c (.sl .nil [])), none, [], true⟩,
      ⟨(some 9), .mv (.s 23), none, [], true⟩])
    .ret)
    .skip)))
   (.seq (.reg [0, 1, 2] [⟨(some 25), .mv (.s 0), none, [], false⟩,
     ⟨(some 26), .call (.c (.fn (.func 42) [] [])) [(.s 25)], none, [], false⟩,
     ⟨(some 27), .mv (.s 1), none, [], false⟩,
     ⟨(some 28), .mv (.s 2), none, [], false⟩,
     ⟨(some 29), .call (.c (.fn (.func 41) [] [])) [(.s 26), (.s 27), (.s 28)], none, [], false⟩,
     ⟨(some 24), .mv (.s 29), none, [], false⟩,
     ⟨(some 30), .extr (.s 24) 0, none, [], false⟩,
     ⟨(some 31), .extr (.s 24) 1, none, [], false⟩,
     ⟨(some 32), .extr (.s 24) 2, none, [], false⟩,
     ⟨(some 11), .mv (.s 30), none, [], true⟩,
     ⟨(some 12), .mv (.s 31), none, [], true⟩,
     ⟨(some 13), .mv (.s 32), none, [], true⟩])
   (.seq (.reg [11, 12, 13] [⟨(some 33), .mv (.s 11), none, [], false⟩,
     ⟨(some 34), .mv (.s 12), none, [], false⟩,
     ⟨(some 35), .mv (.s 13), none, [], false⟩,
     ⟨(some 6), .mv (.s 33), none, [], true⟩,
     ⟨(some 7), .mv (.s 34), none, [], true⟩,
     ⟨(some 8), .mv (.s 35), none, [], true⟩,
     ⟨(some 9), .mv (.c (.int .i64 0)), none, [], true⟩])
   .ret)))) }
theorem tr13 : trF Tryz.prog h13 Tryz.f13 = some i13 := by kernel_rfl

-- ashlar/ashlarref9.Divide
def h14 : List (List Nat) := [[0, 1, 2], [0, 1, 5], [1, 5, 7, 8, 9], [5, 7, 8, 9, 10, 11, 12], [7, 8, 9, 10, 11, 12, 13]]
def i14 : IFn := { nparams := 3, ntmps := 51, results := [.tmp 6], body :=
  (.seq (.reg [0, 1, 2] [⟨(some 5), .box 2 (.s 2), none, [], false⟩,
     ⟨(some 6), .mv (.c (.int .i64 0)), none, [], true⟩])
   (.seq (.reg [0, 1, 5] [⟨(some 15), .mv (.s 0), none, [], false⟩,
     ⟨(some 16), .call (.c (.fn (.func 43) [] [])) [(.s 15)], none, [], false⟩,
     ⟨(some 14), .mv (.s 16), none, [], false⟩,
     ⟨(some 17), .extr (.s 14) 0, none, [], false⟩,
     ⟨(some 18), .extr (.s 14) 1, none, [], false⟩,
     ⟨(some 19), .extr (.s 14) 2, none, [], false⟩,
     ⟨(some 7), .mv (.s 17), none, [], true⟩,
     ⟨(some 8), .mv (.s 18), none, [], true⟩,
     ⟨(some 9), .mv (.s 19), none, [], true⟩])
   (.seq (.reg [1, 5, 7, 8, 9] [⟨(some 21), .mv (.s 1), none, [], false⟩,
     ⟨(some 22), .call (.c (.fn (.func 43) [] [])) [(.s 21)], none, [], false⟩,
     ⟨(some 20), .mv (.s 22), none, [], false⟩,
     ⟨(some 23), .extr (.s 20) 0, none, [], false⟩,
     ⟨(some 24), .extr (.s 20) 1, none, [], false⟩,
     ⟨(some 25), .extr (.s 20) 2, none, [], false⟩,
     ⟨(some 10), .mv (.s 23), none, [], true⟩,
     ⟨(some 11), .mv (.s 24), none, [], true⟩,
     ⟨(some 12), .mv (.s 25), none, [], true⟩])
   (.seq (.reg [5, 7, 8, 9, 10, 11, 12] [⟨(some 26), .load true 2 (.s 5), none, [], false⟩,
     ⟨(some 27), .call (.c (.fn (.func 44) [] [])) [(.s 26)], none, [], false⟩,
     ⟨(some 13), .mv (.s 27), none, [], true⟩])
   (.seq (.reg [7, 8, 9, 10, 11, 12, 13] [⟨(some 28), .mv (.s 7), none, [], false⟩,
     ⟨(some 29), .bin .add .num (.s 28) (.c (.int .i64 1)), none, [], false⟩,
     ⟨(some 30), .mv (.s 10), none, [], false⟩,
     ⟨(some 31), .bin .add .num (.s 30) (.c (.int .i64 1)), none, [], false⟩,
     ⟨(some 32), .mv (.s 7), none, [], false⟩,
     ⟨(some 33), .mv (.s 10), none, [], false⟩,
     ⟨(some 34), .bin .add .num (.s 32) (.s 33), none, [], false⟩,
     ⟨(some 35), .bin .add .num (.s 34) (.c (.int .i64 2)), none, [], false⟩,
     ⟨(some 36), .mv (.s 8), none, [], false⟩,
     ⟨(some 37), .mv (.s 11), none, [], false⟩,
     ⟨(some 38), .bin .add .num (.s 36) (.s 37), none, [], false⟩,
     ⟨(some 39), .bin .add .num (.s 38) (.c (.int .i64 2)), none, [], false⟩,
     ⟨(some 40), .mv (.s 9), none, [], false⟩,
     ⟨(some 41), .mv (.s 12), none, [], false⟩,
     ⟨(some 42), .mv (.s 7), none, [], false⟩,
     ⟨(some 43), .bin .add .num (.s 42) (.c (.int .i64 1)), none, [], false⟩,
     ⟨(some 44), .mv (.s 13), none, [], false⟩,
     ⟨(some 45), .bin .add .num (.s 44) (.c (.int .i64 2)), none, [], false⟩,
     ⟨(some 46), .call (.c (.fn (.func 47) [] [])) [(.s 43), (.s 45)], none, [], false⟩,
     ⟨(some 47), .bsl 1 (.int .i64 0) 4 [(0, (.s 40)), (1, (.s 41)), (2, (.s 46)), (3, (.c (.int .i64 8)))], none, [], false⟩,
     ⟨(some 48), .call (.c (.fn (.func 46) [] [])) [(.s 47)], none, [], false⟩,
     ⟨(some 49), .bsl 1 (.int .i64 0) 5 [(0, (.s 29)), (1, (.s 31)), (2, (.s 35)), (3, (.s 39)), (4, (.s 48))], none, [], false⟩,
     ⟨(some 50), .call (.c (.fn (.func 45) [] [])) [(.s 49)], none, [], false⟩,
     ⟨(some 6), .mv (.s 50), none, [], true⟩])
   .ret))))) }
theorem tr14 : trF Tryz.prog h14 Tryz.f14 = some i14 := by kernel_rfl

-- ashlar/ashlarref8.Scale
def h15 : List (List Nat) := [[0, 1], [0, 1], [0, 1, 5], [0, 1, 5, 6], [0, 1, 5, 6], [0, 1, 5, 6], [0, 1, 5, 6], [5]]
def i15b0 : ICode :=
  (.seq (.seq (.reg [0, 1, 5, 6] [⟨(some 7), .mv (.s 6), none, [], false⟩,
    ⟨(some 8), .mv (.s 1), none, [], false⟩,
    ⟨(some 9), .len false (.s 8), none, [], false⟩,
    ⟨(some 10), .bin .lss .num (.s 7) (.s 9), none, [], false⟩])
  (.cond (.s 10)
   .skip
   (.exit 0)))
  (.seq (.block 1
   (.reg [0, 1, 5, 6] [⟨(some 13), .mv (.s 5), none, [], false⟩,
     ⟨(some 14), .mv (.s 0), none, [], false⟩,
     ⟨(some 15), .mv (.s 1), none, [], false⟩,
     ⟨(some 16), .mv (.s 6), none, [], false⟩,
     ⟨(some 17), .idxA 1 (.s 15) (.s 16), none, [], false⟩,
     ⟨(some 18), .load false 1 (.s 17), none, [], false⟩,
     ⟨(some 19), .call (.c (.fn (.func 48) [] [])) [(.s 14), (.s 18)], none, [], false⟩,
     ⟨(some 20), .bsl 1 (.sl .nil []) 1 [(0, (.s 19))], none, [], false⟩,
     ⟨(some 21), .app 1 24 (.s 13) (.s 20), none, [], false⟩,
     ⟨(some 5), .mv (.s 21), none, [], true⟩]))
  (.reg [0, 1, 5, 6] [⟨(some 11), .mv (.s 6), none, [], false⟩,
    ⟨(some 12), .bin .add .num (.s 11) (.c (.int .i64 1)), none, [], false⟩,
    ⟨(some 6), .mv (.s 12), none, [], true⟩])))
def i15 : IFn := { nparams := 2, ntmps := 24, results := [.tmp 4], body :=
  (.seq (.reg [0, 1] [⟨(some 4), .mv (.c (.sl .nil [])), none, [], true⟩])
   (.seq (.reg [0, 1] [⟨(some 5), .mv (.c (.sl .nil [])), none, [], true⟩])
   (.seq (.seq (.reg [0, 1, 5] [⟨(some 6), .mv (.c (.int .i64 0)), none, [], true⟩])
   (.block 0
    (.loop [0, 1, 5, 6] i15b0)))
   (.seq (.reg [5] [⟨(some 22), .mv (.s 5), none, [], false⟩,
     ⟨(some 23), .call (.c (.fn (.func 37) [] [])) [(.s 22)], none, [], false⟩,
     ⟨(some 4), .mv (.s 23), none, [], true⟩])
   .ret)))) }
theorem tr15 : trF Tryz.prog h15 Tryz.f15 = some i15 := by kernel_rfl

-- ashlar/ashlarref3.From
def h16 : List (List Nat) := [[0], [0], [0, 3], [0, 3, 4], [0, 3, 4], [0, 3, 4], [0, 3, 4], [3]]
def i16b0 : ICode :=
  (.seq (.seq (.reg [0, 3, 4] [⟨(some 5), .mv (.s 4), none, [], false⟩,
    ⟨(some 6), .mv (.s 0), none, [], false⟩,
    ⟨(some 7), .len false (.s 6), none, [], false⟩,
    ⟨(some 8), .bin .lss .num (.s 5) (.s 7), none, [], false⟩])
  (.cond (.s 8)
   .skip
   (.exit 0)))
  (.seq (.block 1
   (.reg [0, 3, 4] [⟨(some 11), .mv (.s 3), none, [], false⟩,
     ⟨(some 12), .mv (.s 0), none, [], false⟩,
     ⟨(some 13), .mv (.s 4), none, [], false⟩,
     ⟨(some 14), .idxA 2 (.s 12) (.s 13), none, [], false⟩,
     ⟨(some 15), .load true 2 (.s 14), none, [], false⟩,
     ⟨(some 16), .call (.c (.fn (.func 36) [] [])) [(.s 15)], none, [], false⟩,
     ⟨(some 17), .bsl 2 (.agg [(.bool false), (.sl .nil [])]) 1 [(0, (.s 16))], none, [], false⟩,
     ⟨(some 18), .app 2 32 (.s 11) (.s 17), none, [], false⟩,
     ⟨(some 3), .mv (.s 18), none, [], true⟩]))
  (.reg [0, 3, 4] [⟨(some 9), .mv (.s 4), none, [], false⟩,
    ⟨(some 10), .bin .add .num (.s 9) (.c (.int .i64 1)), none, [], false⟩,
    ⟨(some 4), .mv (.s 10), none, [], true⟩])))
def i16 : IFn := { nparams := 1, ntmps := 21, results := [.tmp 2], body :=
  (.seq (.reg [0] [⟨(some 2), .mv (.c (.sl .nil [])), none, [], true⟩])
   (.seq (.reg [0] [⟨(some 3), .mv (.c (.sl .nil [])), none, [], true⟩])
   (.seq (.seq (.reg [0, 3] [⟨(some 4), .mv (.c (.int .i64 0)), none, [], true⟩])
   (.block 0
    (.loop [0, 3, 4] i16b0)))
   (.seq (.reg [3] [⟨(some 19), .mv (.s 3), none, [], false⟩,
     ⟨(some 20), .call (.c (.fn (.func 49) [] [])) [(.s 19)], none, [], false⟩,
     ⟨(some 2), .mv (.s 20), none, [], true⟩])
   .ret)))) }
theorem tr16 : trF Tryz.prog h16 Tryz.f16 = some i16 := by kernel_rfl

-- ashlar/ashlarref8.Add
def h17 : List (List Nat) := [[0, 1], [0, 1], [0, 1, 5], [0, 1, 5, 6], [0, 1, 5, 6], [0, 1, 5, 6], [0, 1, 5, 6], [5]]
def i17b0 : ICode :=
  (.seq (.seq (.reg [0, 1, 5, 6] [⟨(some 7), .mv (.s 6), none, [], false⟩,
    ⟨(some 8), .mv (.s 0), none, [], false⟩,
    ⟨(some 9), .len false (.s 8), none, [], false⟩,
    ⟨(some 10), .bin .lss .num (.s 7) (.s 9), none, [], false⟩,
    ⟨(some 11), .mv (.s 10), none, [], false⟩,
    ⟨(some 12), .mv (.s 6), (some (11, false)), [], false⟩,
    ⟨(some 13), .mv (.s 1), (some (11, false)), [], false⟩,
    ⟨(some 14), .len false (.s 13), (some (11, false)), [], false⟩,
    ⟨(some 15), .bin .lss .num (.s 12) (.s 14), (some (11, false)), [], false⟩,
    ⟨(some 16), .pick (.s 11) (.c (.bool true)) (.s 15), none, [], false⟩])
  (.cond (.s 16)
   .skip
   (.exit 0)))
  (.seq (.block 1
   (.reg [0, 1, 5, 6] [⟨(some 19), .mv (.s 5), none, [], false⟩,
     ⟨(some 20), .mv (.s 0), none, [], false⟩,
     ⟨(some 21), .mv (.s 6), none, [], false⟩,
     ⟨(some 22), .call (.c (.fn (.func 51) [] [])) [(.s 20), (.s 21)], none, [], false⟩,
     ⟨(some 23), .mv (.s 1), none, [], false⟩,
     ⟨(some 24), .mv (.s 6), none, [], false⟩,
     ⟨(some 25), .call (.c (.fn (.func 51) [] [])) [(.s 23), (.s 24)], none, [], false⟩,
     ⟨(some 26), .call (.c (.fn (.func 50) [] [])) [(.s 22), (.s 25)], none, [], false⟩,
     ⟨(some 27), .bsl 1 (.sl .nil []) 1 [(0, (.s 26))], none, [], false⟩,
     ⟨(some 28), .app 1 24 (.s 19) (.s 27), none, [], false⟩,
     ⟨(some 5), .mv (.s 28), none, [], true⟩]))
  (.reg [0, 1, 5, 6] [⟨(some 17), .mv (.s 6), none, [], false⟩,
    ⟨(some 18), .bin .add .num (.s 17) (.c (.int .i64 1)), none, [], false⟩,
    ⟨(some 6), .mv (.s 18), none, [], true⟩])))
def i17 : IFn := { nparams := 2, ntmps := 31, results := [.tmp 4], body :=
  (.seq (.reg [0, 1] [⟨(some 4), .mv (.c (.sl .nil [])), none, [], true⟩])
   (.seq (.reg [0, 1] [⟨(some 5), .mv (.c (.sl .nil [])), none, [], true⟩])
   (.seq (.seq (.reg [0, 1, 5] [⟨(some 6), .mv (.c (.int .i64 0)), none, [], true⟩])
   (.block 0
    (.loop [0, 1, 5, 6] i17b0)))
   (.seq (.reg [5] [⟨(some 29), .mv (.s 5), none, [], false⟩,
     ⟨(some 30), .call (.c (.fn (.func 37) [] [])) [(.s 29)], none, [], false⟩,
     ⟨(some 4), .mv (.s 30), none, [], true⟩])
   .ret)))) }
theorem tr17 : trF Tryz.prog h17 Tryz.f17 = some i17 := by kernel_rfl

-- (ashlar/ashlarref8.Rule).Mul
def h18 : List (List Nat) := [[0, 1, 2], [1, 2, 3], [1, 2, 3, 7], [1, 2, 3, 7, 8], [1, 2, 3, 7, 8], [1, 2, 3, 7, 8], [1, 2, 3, 7, 8], [1, 2, 3, 7, 8], [1, 2, 3, 7, 8], [7]]
def i18b0 : ICode :=
  (.seq (.seq (.reg [1, 2, 3, 7, 8] [⟨(some 9), .mv (.s 8), none, [], false⟩,
    ⟨(some 10), .mv (.s 1), none, [], false⟩,
    ⟨(some 11), .len false (.s 10), none, [], false⟩,
    ⟨(some 12), .bin .lss .num (.s 9) (.s 11), none, [], false⟩])
  (.cond (.s 12)
   .skip
   (.exit 0)))
  (.seq (.block 1
   (.seq (.seq (.reg [1, 2, 3, 7, 8] [⟨(some 15), .mv (.s 8), none, [], false⟩,
     ⟨(some 16), .bin .gtr .num (.s 15) (.c (.int .i64 0)), none, [], false⟩])
   (.cond (.s 16)
    (.reg [1, 2, 3, 7, 8] [⟨(some 17), .load true 3 (.s 3), none, [], false⟩,
      ⟨(some 18), .mv (.s 2), none, [], false⟩,
      ⟨(some 19), .call (.c (.fn (.func 52) [] [])) [(.s 17), (.s 18)], none, [], false⟩,
      ⟨(some 2), .mv (.s 19), none, [], true⟩])
    .skip))
   (.reg [1, 2, 3, 7, 8] [⟨(some 20), .mv (.s 7), none, [], false⟩,
     ⟨(some 21), .mv (.s 1), none, [], false⟩,
     ⟨(some 22), .mv (.s 8), none, [], false⟩,
     ⟨(some 23), .idxA 1 (.s 21) (.s 22), none, [], false⟩,
     ⟨(some 24), .load false 1 (.s 23), none, [], false⟩,
     ⟨(some 25), .mv (.s 2), none, [], false⟩,
     ⟨(some 26), .call (.c (.fn (.func 15) [] [])) [(.s 24), (.s 25)], none, [], false⟩,
     ⟨(some 27), .call (.c (.fn (.func 17) [] [])) [(.s 20), (.s 26)], none, [], false⟩,
     ⟨(some 7), .mv (.s 27), none, [], true⟩])))
  (.reg [1, 2, 3, 7, 8] [⟨(some 13), .mv (.s 8), none, [], false⟩,
    ⟨(some 14), .bin .add .num (.s 13) (.c (.int .i64 1)), none, [], false⟩,
    ⟨(some 8), .mv (.s 14), none, [], true⟩])))
def i18 : IFn := { nparams := 3, ntmps := 29, results := [.tmp 6], body :=
  (.seq (.reg [0, 1, 2] [⟨(some 3), .box 3 (.s 0), none, [], false⟩,
     ⟨(some 6), .mv (.c (.sl .nil [])), none, [], true⟩])
   (.seq (.reg [1, 2, 3] [⟨(some 7), .mv (.c (.sl .nil [])), none, [], true⟩])
   (.seq (.seq (.reg [1, 2, 3, 7] [⟨(some 8), .mv (.c (.int .i64 0)), none, [], true⟩])
   (.block 0
    (.loop [1, 2, 3, 7, 8] i18b0)))
   (.seq (.reg [7] [⟨(some 28), .mv (.s 7), none, [], false⟩,
     ⟨(some 6), .mv (.s 28), none, [], true⟩])
   .ret)))) }
theorem tr18 : trF Tryz.prog h18 Tryz.f18 = some i18 := by kernel_rfl

-- ashlar/ashlarlaw10.fine
def h19 : List (List Nat) := [[0], [0], [0, 3], [0, 3], [0, 3], [0, 3, 4], [], [0, 3], []]
def i19b0 : ICode :=
  (.seq (.seq (.reg [0, 3] [⟨(some 5), .mv (.s 3), none, [], false⟩,
    ⟨(some 6), .mv (.s 0), none, [], false⟩,
    ⟨(some 7), .len false (.s 6), none, [], false⟩,
    ⟨(some 8), .bin .lss .num (.s 5) (.s 7), none, [], false⟩])
  (.cond (.s 8)
   .skip
   (.exit 0)))
  (.seq (.block 1
   (.seq (.reg [0, 3] [⟨(some 11), .mv (.s 0), none, [], false⟩,
     ⟨(some 12), .mv (.s 3), none, [], false⟩,
     ⟨(some 13), .idxA 1 (.s 11) (.s 12), none, [], false⟩,
     ⟨(some 14), .load false 1 (.s 13), none, [], false⟩,
     ⟨(some 15), .call (.c (.fn (.func 53) [] [])) [(.s 14)], none, [], false⟩,
     ⟨(some 4), .mv (.s 15), none, [], true⟩])
   (.seq (.reg [0, 3, 4] [⟨(some 16), .mv (.s 4), none, [], false⟩,
     ⟨(some 17), .un .not (.s 16), none, [], false⟩])
   (.cond (.s 17)
    (.seq (.reg [] [⟨(some 2), .mv (.c (.bool false)), none, [], true⟩])
    .ret)
    .skip))))
  (.reg [0, 3] [⟨(some 9), .mv (.s 3), none, [], false⟩,
    ⟨(some 10), .bin .add .num (.s 9) (.c (.int .i64 1)), none, [], false⟩,
    ⟨(some 3), .mv (.s 10), none, [], true⟩])))
def i19 : IFn := { nparams := 1, ntmps := 18, results := [.tmp 2], body :=
  (.seq (.reg [0] [⟨(some 2), .mv (.c (.bool false)), none, [], true⟩])
   (.seq (.seq (.reg [0] [⟨(some 3), .mv (.c (.int .i64 0)), none, [], true⟩])
   (.block 0
    (.loop [0, 3] i19b0)))
   (.seq (.reg [] [⟨(some 2), .mv (.c (.bool true)), none, [], true⟩])
   .ret))) }
theorem tr19 : trF Tryz.prog h19 Tryz.f19 = some i19 := by kernel_rfl

-- ashlar/ashlarref8.Order
def h20 : List (List Nat) := [[0], [0]]
def i20 : IFn := { nparams := 1, ntmps := 6, results := [.tmp 2], body :=
  (.seq (.reg [0] [⟨(some 2), .mv (.c (.int .i64 0)), none, [], true⟩])
   (.seq (.reg [0] [⟨(some 3), .mv (.s 0), none, [], false⟩,
     ⟨(some 4), .len false (.s 3), none, [], false⟩,
     ⟨(some 5), .bin .sub .num (.s 4) (.c (.int .i64 1)), none, [], false⟩,
     ⟨(some 2), .mv (.s 5), none, [], true⟩])
   .ret)) }
theorem tr20 : trF Tryz.prog h20 Tryz.f20 = some i20 := by kernel_rfl

-- ashlar/ashlarref3.Is
def h21 : List (List Nat) := [[0, 1], [0, 1], [], [0, 1], [0, 1, 5], [0, 1, 5], [0, 1, 5], [0, 1, 5, 6], [], [0, 1, 5], []]
def i21b0 : ICode :=
  (.seq (.seq (.reg [0, 1, 5] [⟨(some 12), .mv (.s 5), none, [], false⟩,
    ⟨(some 13), .mv (.s 0), none, [], false⟩,
    ⟨(some 14), .len false (.s 13), none, [], false⟩,
    ⟨(some 15), .bin .lss .num (.s 12) (.s 14), none, [], false⟩])
  (.cond (.s 15)
   .skip
   (.exit 0)))
  (.seq (.block 1
   (.seq (.draw [0, 1, 5] [⟨(some 18), .mv (.s 0), none, [], false⟩,
     ⟨(some 19), .mv (.s 5), none, [], false⟩,
     ⟨(some 20), .idxA 2 (.s 18) (.s 19), none, [0, 1], false⟩,
     ⟨(some 21), .load true 2 (.s 20), none, [2], false⟩,
     ⟨(some 22), .mv (.s 1), none, [], false⟩,
     ⟨(some 23), .mv (.s 5), none, [], false⟩,
     ⟨(some 24), .idxA 2 (.s 22) (.s 23), none, [4, 5], false⟩,
     ⟨(some 25), .load true 2 (.s 24), none, [6], false⟩,
     ⟨(some 26), .call (.c (.fn (.func 54) [] [])) [(.s 21), (.s 25)], none, [3, 7], false⟩,
     ⟨(some 6), .mv (.s 26), none, [8, 0, 1, 2, 3, 4, 5, 6, 7], true⟩])
   (.seq (.reg [0, 1, 5, 6] [⟨(some 27), .mv (.s 6), none, [], false⟩,
     ⟨(some 28), .un .not (.s 27), none, [], false⟩])
   (.cond (.s 28)
    (.seq (.reg [] [⟨(some 4), .mv (.c (.bool false)), none, [], true⟩])
    .ret)
    .skip))))
  (.reg [0, 1, 5] [⟨(some 16), .mv (.s 5), none, [], false⟩,
    ⟨(some 17), .bin .add .num (.s 16) (.c (.int .i64 1)), none, [], false⟩,
    ⟨(some 5), .mv (.s 17), none, [], true⟩])))
def i21 : IFn := { nparams := 2, ntmps := 29, results := [.tmp 4], body :=
  (.seq (.reg [0, 1] [⟨(some 4), .mv (.c (.bool false)), none, [], true⟩])
   (.seq (.seq (.reg [0, 1] [⟨(some 7), .mv (.s 0), none, [], false⟩,
     ⟨(some 8), .len false (.s 7), none, [], false⟩,
     ⟨(some 9), .mv (.s 1), none, [], false⟩,
     ⟨(some 10), .len false (.s 9), none, [], false⟩,
     ⟨(some 11), .bin .neq .num (.s 8) (.s 10), none, [], false⟩])
   (.cond (.s 11)
    (.seq (.reg [] [⟨(some 4), .mv (.c (.bool false)), none, [], true⟩])
    .ret)
    .skip))
   (.seq (.seq (.reg [0, 1] [⟨(some 5), .mv (.c (.int .i64 0)), none, [], true⟩])
   (.block 0
    (.loop [0, 1, 5] i21b0)))
   (.seq (.reg [] [⟨(some 4), .mv (.c (.bool true)), none, [], true⟩])
   .ret)))) }
theorem tr21 : trF Tryz.prog h21 Tryz.f21 = some i21 := by kernel_rfl

-- ashlar/ashlarref3.Of
def h22 : List (List Nat) := [[0], [0], [0, 3], [0, 3, 4], [0, 3, 4], [0, 3, 4], [0, 3, 4], [3]]
def i22b0 : ICode :=
  (.seq (.seq (.reg [0, 3, 4] [⟨(some 5), .mv (.s 4), none, [], false⟩,
    ⟨(some 6), .mv (.s 0), none, [], false⟩,
    ⟨(some 7), .len false (.s 6), none, [], false⟩,
    ⟨(some 8), .bin .lss .num (.s 5) (.s 7), none, [], false⟩])
  (.cond (.s 8)
   .skip
   (.exit 0)))
  (.seq (.block 1
   (.reg [0, 3, 4] [⟨(some 11), .mv (.s 3), none, [], false⟩,
     ⟨(some 12), .mv (.s 0), none, [], false⟩,
     ⟨(some 13), .mv (.s 4), none, [], false⟩,
     ⟨(some 14), .idxA 1 (.s 12) (.s 13), none, [], false⟩,
     ⟨(some 15), .load false 1 (.s 14), none, [], false⟩,
     ⟨(some 16), .call (.c (.fn (.func 35) [] [])) [(.s 15)], none, [], false⟩,
     ⟨(some 17), .bsl 2 (.agg [(.bool false), (.sl .nil [])]) 1 [(0, (.s 16))], none, [], false⟩,
     ⟨(some 18), .app 2 32 (.s 11) (.s 17), none, [], false⟩,
     ⟨(some 3), .mv (.s 18), none, [], true⟩]))
  (.reg [0, 3, 4] [⟨(some 9), .mv (.s 4), none, [], false⟩,
    ⟨(some 10), .bin .add .num (.s 9) (.c (.int .i64 1)), none, [], false⟩,
    ⟨(some 4), .mv (.s 10), none, [], true⟩])))
def i22 : IFn := { nparams := 1, ntmps := 21, results := [.tmp 2], body :=
  (.seq (.reg [0] [⟨(some 2), .mv (.c (.sl .nil [])), none, [], true⟩])
   (.seq (.reg [0] [⟨(some 3), .mv (.c (.sl .nil [])), none, [], true⟩])
   (.seq (.seq (.reg [0, 3] [⟨(some 4), .mv (.c (.int .i64 0)), none, [], true⟩])
   (.block 0
    (.loop [0, 3, 4] i22b0)))
   (.seq (.reg [3] [⟨(some 19), .mv (.s 3), none, [], false⟩,
     ⟨(some 20), .call (.c (.fn (.func 49) [] [])) [(.s 19)], none, [], false⟩,
     ⟨(some 2), .mv (.s 20), none, [], true⟩])
   .ret)))) }
theorem tr22 : trF Tryz.prog h22 Tryz.f22 = some i22 := by kernel_rfl

-- ashlar/ashlarref8.Eq
def h23 : List (List Nat) := [[0, 1], [0, 1], [], [0, 1], [0, 1, 5], [0, 1, 5], [0, 1, 5], [0, 1, 5, 6], [], [0, 1, 5], []]
def i23b0 : ICode :=
  (.seq (.seq (.reg [0, 1, 5] [⟨(some 12), .mv (.s 5), none, [], false⟩,
    ⟨(some 13), .mv (.s 0), none, [], false⟩,
    ⟨(some 14), .len false (.s 13), none, [], false⟩,
    ⟨(some 15), .bin .lss .num (.s 12) (.s 14), none, [], false⟩])
  (.cond (.s 15)
   .skip
   (.exit 0)))
  (.seq (.block 1
   (.seq (.draw [0, 1, 5] [⟨(some 18), .mv (.s 0), none, [], false⟩,
     ⟨(some 19), .mv (.s 5), none, [], false⟩,
     ⟨(some 20), .idxA 1 (.s 18) (.s 19), none, [0, 1], false⟩,
     ⟨(some 21), .load false 1 (.s 20), none, [2], false⟩,
     ⟨(some 22), .mv (.s 1), none, [], false⟩,
     ⟨(some 23), .mv (.s 5), none, [], false⟩,
     ⟨(some 24), .idxA 1 (.s 22) (.s 23), none, [4, 5], false⟩,
     ⟨(some 25), .load false 1 (.s 24), none, [6], false⟩,
     ⟨(some 26), .call (.c (.fn (.func 55) [] [])) [(.s 21), (.s 25)], none, [3, 7], false⟩,
     ⟨(some 6), .mv (.s 26), none, [8, 0, 1, 2, 3, 4, 5, 6, 7], true⟩])
   (.seq (.reg [0, 1, 5, 6] [⟨(some 27), .mv (.s 6), none, [], false⟩,
     ⟨(some 28), .un .not (.s 27), none, [], false⟩])
   (.cond (.s 28)
    (.seq (.reg [] [⟨(some 4), .mv (.c (.bool false)), none, [], true⟩])
    .ret)
    .skip))))
  (.reg [0, 1, 5] [⟨(some 16), .mv (.s 5), none, [], false⟩,
    ⟨(some 17), .bin .add .num (.s 16) (.c (.int .i64 1)), none, [], false⟩,
    ⟨(some 5), .mv (.s 17), none, [], true⟩])))
def i23 : IFn := { nparams := 2, ntmps := 29, results := [.tmp 4], body :=
  (.seq (.reg [0, 1] [⟨(some 4), .mv (.c (.bool false)), none, [], true⟩])
   (.seq (.seq (.reg [0, 1] [⟨(some 7), .mv (.s 0), none, [], false⟩,
     ⟨(some 8), .len false (.s 7), none, [], false⟩,
     ⟨(some 9), .mv (.s 1), none, [], false⟩,
     ⟨(some 10), .len false (.s 9), none, [], false⟩,
     ⟨(some 11), .bin .neq .num (.s 8) (.s 10), none, [], false⟩])
   (.cond (.s 11)
    (.seq (.reg [] [⟨(some 4), .mv (.c (.bool false)), none, [], true⟩])
    .ret)
    .skip))
   (.seq (.seq (.reg [0, 1] [⟨(some 5), .mv (.c (.int .i64 0)), none, [], true⟩])
   (.block 0
    (.loop [0, 1, 5] i23b0)))
   (.seq (.reg [] [⟨(some 4), .mv (.c (.bool true)), none, [], true⟩])
   .ret)))) }
theorem tr23 : trF Tryz.prog h23 Tryz.f23 = some i23 := by kernel_rfl

-- ashlar/ashlarlaw8.Cut
def h24 : List (List Nat) := [[0, 1, 2, 3], [0, 1, 2, 3], [0, 1, 2, 3, 9], [0, 1, 2, 3, 9, 10], [0, 1, 2, 3, 9, 10], [0, 1, 2, 3, 9, 10], [0, 1, 2, 3, 9, 10], [9]]
def i24b0 : ICode :=
  (.seq (.seq (.reg [0, 1, 2, 3, 9, 10] [⟨(some 11), .mv (.s 10), none, [], false⟩,
    ⟨(some 12), .mv (.s 0), none, [], false⟩,
    ⟨(some 13), .len false (.s 12), none, [], false⟩,
    ⟨(some 14), .bin .lss .num (.s 11) (.s 13), none, [], false⟩,
    ⟨(some 15), .mv (.s 14), none, [], false⟩,
    ⟨(some 16), .mv (.s 10), (some (15, true)), [], false⟩,
    ⟨(some 17), .mv (.s 1), (some (15, true)), [], false⟩,
    ⟨(some 18), .bin .leq .num (.s 16) (.s 17), (some (15, true)), [], false⟩,
    ⟨(some 19), .pick (.s 15) (.s 18) (.c (.bool false)), none, [], false⟩])
  (.cond (.s 19)
   .skip
   (.exit 0)))
  (.seq (.block 1
   (.reg [0, 1, 2, 3, 9, 10] [⟨(some 22), .mv (.s 9), none, [], false⟩,
     ⟨(some 23), .mv (.s 0), none, [], false⟩,
     ⟨(some 24), .mv (.s 10), none, [], false⟩,
     ⟨(some 25), .idxA 1 (.s 23) (.s 24), none, [], false⟩,
     ⟨(some 26), .load false 1 (.s 25), none, [], false⟩,
     ⟨(some 27), .mv (.s 2), none, [], false⟩,
     ⟨(some 28), .mv (.s 3), none, [], false⟩,
     ⟨(some 29), .call (.c (.fn (.func 34) [] [])) [(.s 26), (.s 27), (.s 28)], none, [], false⟩,
     ⟨(some 30), .bsl 1 (.sl .nil []) 1 [(0, (.s 29))], none, [], false⟩,
     ⟨(some 31), .app 1 24 (.s 22) (.s 30), none, [], false⟩,
     ⟨(some 9), .mv (.s 31), none, [], true⟩]))
  (.reg [0, 1, 2, 3, 9, 10] [⟨(some 20), .mv (.s 10), none, [], false⟩,
    ⟨(some 21), .bin .add .num (.s 20) (.c (.int .i64 1)), none, [], false⟩,
    ⟨(some 10), .mv (.s 21), none, [], true⟩])))
def i24 : IFn := { nparams := 4, ntmps := 33, results := [.tmp 8], body :=
  (.seq (.reg [0, 1, 2, 3] [⟨(some 8), .mv (.c (.sl .nil [])), none, [], true⟩])
   (.seq (.reg [0, 1, 2, 3] [⟨(some 9), .mv (.c (.sl .nil [])), none, [], true⟩])
   (.seq (.seq (.reg [0, 1, 2, 3, 9] [⟨(some 10), .mv (.c (.int .i64 0)), none, [], true⟩])
   (.block 0
    (.loop [0, 1, 2, 3, 9, 10] i24b0)))
   (.seq (.reg [9] [⟨(some 32), .mv (.s 9), none, [], false⟩,
     ⟨(some 8), .mv (.s 32), none, [], true⟩])
   .ret)))) }
theorem tr24 : trF Tryz.prog h24 Tryz.f24 = some i24 := by kernel_rfl

-- ashlar/euclid.Divides
def h25 : List (List Nat) := [[0, 1, 2], [0, 1, 2], [10, 11]]
def i25 : IFn := { nparams := 3, ntmps := 29, results := [.tmp 6, .tmp 7], body :=
  (.seq (.reg [0, 1, 2] [⟨(some 6), .mv (.c (.bool false)), none, [], true⟩,
     ⟨(some 7), .mv (.c (.int .i64 0)), none, [], true⟩])
   (.seq (.reg [0, 1, 2] [⟨(some 13), .mv (.s 0), none, [], false⟩,
     ⟨(some 14), .mv (.s 2), none, [], false⟩,
     ⟨(some 15), .mv (.s 1), none, [], false⟩,
     ⟨(some 16), .call (.c (.fn (.func 13) [] [])) [(.s 13), (.s 14), (.s 15)], none, [], false⟩,
     ⟨(some 12), .mv (.s 16), none, [], false⟩,
     ⟨(some 17), .extr (.s 12) 0, none, [], false⟩,
     ⟨(some 18), .extr (.s 12) 1, none, [], false⟩,
     ⟨(some 19), .extr (.s 12) 2, none, [], false⟩,
     ⟨(some 20), .extr (.s 12) 3, none, [], false⟩,
     ⟨(some 8), .mv (.s 17), none, [], true⟩,
     ⟨(some 9), .mv (.s 18), none, [], true⟩,
     ⟨(some 10), .mv (.s 19), none, [], true⟩,
     ⟨(some 11), .mv (.s 20), none, [], true⟩])
   (.seq (.reg [10, 11] [⟨(some 21), .mv (.s 11), none, [], false⟩,
     ⟨(some 22), .bin .eql .num (.s 21) (.c (.int .i64 0)), none, [], false⟩,
     ⟨(some 23), .mv (.s 22), none, [], false⟩,
     ⟨(some 24), .mv (.s 10), (some (23, true)), [], false⟩,
     ⟨(some 25), .len false (.s 24), (some (23, true)), [], false⟩,
     ⟨(some 26), .bin .eql .num (.s 25) (.c (.int .i64 0)), (some (23, true)), [], false⟩,
     ⟨(some 27), .pick (.s 23) (.s 26) (.c (.bool false)), none, [], false⟩,
     ⟨(some 28), .mv (.s 11), none, [], false⟩,
     ⟨(some 6), .mv (.s 27), none, [], true⟩,
     ⟨(some 7), .mv (.s 28), none, [], true⟩])
   .ret))) }
theorem tr25 : trF Tryz.prog h25 Tryz.f25 = some i25 := by kernel_rfl

-- ashlar/ashlarref8.To
def h26 : List (List Nat) := [[0], [0], [0, 3], [0, 3, 4], [0, 3, 4], [0, 3, 4], [0, 3, 4], [3]]
def i26b0 : ICode :=
  (.seq (.seq (.reg [0, 3, 4] [⟨(some 5), .mv (.s 4), none, [], false⟩,
    ⟨(some 6), .mv (.s 0), none, [], false⟩,
    ⟨(some 7), .len false (.s 6), none, [], false⟩,
    ⟨(some 8), .bin .lss .num (.s 5) (.s 7), none, [], false⟩])
  (.cond (.s 8)
   .skip
   (.exit 0)))
  (.seq (.block 1
   (.reg [0, 3, 4] [⟨(some 11), .mv (.s 3), none, [], false⟩,
     ⟨(some 12), .mv (.s 0), none, [], false⟩,
     ⟨(some 13), .mv (.s 4), none, [], false⟩,
     ⟨(some 14), .idxA 1 (.s 12) (.s 13), none, [], false⟩,
     ⟨(some 15), .load false 1 (.s 14), none, [], false⟩,
     ⟨(some 16), .call (.c (.fn (.func 56) [] [])) [(.s 15)], none, [], false⟩,
     ⟨(some 17), .bsl 1 (.sl .nil []) 1 [(0, (.s 16))], none, [], false⟩,
     ⟨(some 18), .app 1 24 (.s 11) (.s 17), none, [], false⟩,
     ⟨(some 3), .mv (.s 18), none, [], true⟩]))
  (.reg [0, 3, 4] [⟨(some 9), .mv (.s 4), none, [], false⟩,
    ⟨(some 10), .bin .add .num (.s 9) (.c (.int .i64 1)), none, [], false⟩,
    ⟨(some 4), .mv (.s 10), none, [], true⟩])))
def i26 : IFn := { nparams := 1, ntmps := 20, results := [.tmp 2], body :=
  (.seq (.reg [0] [⟨(some 2), .mv (.c (.sl .nil [])), none, [], true⟩])
   (.seq (.reg [0] [⟨(some 3), .mv (.c (.sl .nil [])), none, [], true⟩])
   (.seq (.seq (.reg [0, 3] [⟨(some 4), .mv (.c (.int .i64 0)), none, [], true⟩])
   (.block 0
    (.loop [0, 3, 4] i26b0)))
   (.seq (.reg [3] [⟨(some 19), .mv (.s 3), none, [], false⟩,
     ⟨(some 2), .mv (.s 19), none, [], true⟩])
   .ret)))) }
theorem tr26 : trF Tryz.prog h26 Tryz.f26 = some i26 := by kernel_rfl

-- ashlar/euclid.Common
def h27 : List (List Nat) := [[0, 1, 2], [0, 1, 2, 6], [0, 1, 2, 6, 8], [6, 8], [0, 1, 2, 6], [0, 1, 2, 6, 9], [0, 1, 2, 6, 11], [0, 2, 6, 11], [6, 11]]
def i27 : IFn := { nparams := 3, ntmps := 76, results := [.cell 6 true 8, .tmp 7], body :=
  (.seq (.reg [0, 1, 2] [⟨(some 6), .alloc 8 (.agg [(.sl .nil []), (.sl .nil []), (.sl .nil []), (.sl .nil []), (.sl .nil []), (.sl .nil []), (.sl .nil []), (.sl .nil [])]), none, [], false⟩,
     ⟨(some 7), .mv (.c (.int .i64 0)), none, [], true⟩])
   (.seq (.seq (.reg [0, 1, 2, 6] [⟨(some 12), .mv (.s 0), none, [], false⟩,
     ⟨(some 13), .mv (.s 1), none, [], false⟩,
     ⟨(some 14), .call (.c (.fn (.func 39) [] [])) [(.s 13)], none, [], false⟩,
     ⟨(some 15), .bin .lss .num (.s 14) (.c (.int .i64 0)), none, [], false⟩,
     ⟨(some 16), .mv (.s 15), none, [], false⟩,
     ⟨(some 17), .mv (.s 2), (some (16, true)), [], false⟩,
     ⟨(some 18), .call (.c (.fn (.func 39) [] [])) [(.s 17)], (some (16, true)), [], false⟩,
     ⟨(some 19), .bin .lss .num (.s 18) (.c (.int .i64 0)), (some (16, true)), [], false⟩,
     ⟨(some 20), .pick (.s 16) (.s 19) (.c (.bool false)), none, [], false⟩,
     ⟨(some 21), .mv (.s 1), none, [], false⟩,
     ⟨(some 22), .mv (.s 2), none, [], false⟩,
     ⟨(some 23), .call (.c (.fn (.func 38) [] [])) [(.s 12), (.s 20), (.c (.fn (.func 57) [] [])), (.s 21), (.s 22)], none, [], false⟩,
     ⟨(some 8), .mv (.s 23), none, [], true⟩])
   (.seq (.reg [0, 1, 2, 6, 8] [⟨(some 24), .mv (.s 8), none, [], false⟩,
     ⟨(some 25), .bin .neq .num (.s 24) (.c (.int .i64 0)), none, [], false⟩])
   (.cond (.s 25)
    (.seq (.reg [6, 8] [⟨(some 26), .build [(.sl .nil []), (.sl .nil []), (.sl .nil []), (.sl .nil []), (.sl .nil []), (.sl .nil []), (.sl .nil []), (.sl .nil [])] [], none, [], false⟩,
      ⟨(some 27), .mv (.s 8), none, [], false⟩,
      ⟨none, .store 8 (.s 6) (.s 26), none, [], false⟩,
      ⟨(some 7), .mv (.s 27), none, [], true⟩])
    .ret)
    .skip)))
   (.seq (.reg [0, 1, 2, 6] [⟨(some 29), .mv (.s 0), none, [], false⟩,
     ⟨(some 30), .call (.c (.fn (.func 42) [] [])) [(.s 29)], none, [], false⟩,
     ⟨(some 31), .mv (.s 1), none, [], false⟩,
     ⟨(some 32), .mv (.s 2), none, [], false⟩,
     ⟨(some 33), .call (.c (.fn (.func 58) [] [])) [(.s 30), (.s 31), (.s 32)], none, [], false⟩,
     ⟨(some 28), .mv (.s 33), none, [], false⟩,
     ⟨(some 34), .extr (.s 28) 0, none, [], false⟩,
     ⟨(some 35), .extr (.s 28) 1, none, [], false⟩,
     ⟨(some 9), .alloc 3 (.agg [(.sl .nil []), (.sl .nil []), (.sl .nil [])]), none, [], false⟩,
     ⟨(some 10), .alloc 3 (.agg [(.sl .nil []), (.sl .nil []), (.sl .nil [])]), none, [], false⟩,
     ⟨none, .store 3 (.s 9) (.s 34), none, [], false⟩,
     ⟨none, .store 3 (.s 10) (.s 35), none, [], false⟩])
   (.seq (.draw [0, 1, 2, 6, 9] [⟨(some 36), .fldA 2 false 1 (.s 9), none, [], false⟩,
     ⟨(some 37), .load false 1 (.s 36), none, [0], false⟩,
     ⟨(some 38), .call (.c (.fn (.func 59) [] [])) [(.s 37)], none, [1], false⟩,
     ⟨(some 39), .fldA 0 false 1 (.s 9), none, [], false⟩,
     ⟨(some 40), .load false 1 (.s 39), none, [3], false⟩,
     ⟨(some 41), .fldA 1 false 1 (.s 9), none, [], false⟩,
     ⟨(some 42), .load false 1 (.s 41), none, [5], false⟩,
     ⟨(some 43), .fldA 2 false 1 (.s 9), none, [], false⟩,
     ⟨(some 44), .load false 1 (.s 43), none, [7], false⟩,
     ⟨(some 45), .call (.c (.fn (.func 61) [] [])) [(.s 44)], none, [8, 2], false⟩,
     ⟨(some 46), .fldA 2 false 1 (.s 9), none, [], false⟩,
     ⟨(some 47), .load false 1 (.s 46), none, [10], false⟩,
     ⟨(some 48), .call (.c (.fn (.func 62) [] [])) [(.s 47)], none, [11, 9], false⟩,
     ⟨(some 49), .call (.c (.fn (.func 60) [] [])) [(.s 45), (.s 48)], none, [9, 12], false⟩,
     ⟨(some 50), .build [(.sl .nil []), (.sl .nil []), (.sl .nil []), (.sl .nil []), (.sl .nil []), (.sl .nil []), (.sl .nil []), (.sl .nil [])] [(0, 1, (.s 38)), (1, 1, (.s 40)), (2, 1, (.s 42)), (3, 1, (.s 49))], none, [2, 4, 6, 13], false⟩,
     ⟨(some 11), .alloc 8 (.agg [(.sl .nil []), (.sl .nil []), (.sl .nil []), (.sl .nil []), (.sl .nil []), (.sl .nil []), (.sl .nil []), (.sl .nil [])]), none, [], false⟩,
     ⟨none, .store 8 (.s 11) (.s 50), none, [15, 14, 13, 0, 1, 2, 3, 4, 5, 6, 7, 8, 9, 10, 11, 12], false⟩])
   (.seq (.draw [0, 1, 2, 6, 11] [⟨(some 52), .mv (.s 0), none, [], false⟩,
     ⟨(some 53), .call (.c (.fn (.func 42) [] [])) [(.s 52)], none, [0], false⟩,
     ⟨(some 54), .mv (.s 1), none, [], false⟩,
     ⟨(some 55), .fldA 0 false 1 (.s 11), none, [], false⟩,
     ⟨(some 56), .load false 1 (.s 55), none, [3], false⟩,
     ⟨(some 57), .call (.c (.fn (.func 41) [] [])) [(.s 53), (.s 54), (.s 56)], none, [1, 2, 4], false⟩,
     ⟨(some 51), .mv (.s 57), none, [5], false⟩,
     ⟨(some 58), .extr (.s 51) 0, none, [6], false⟩,
     ⟨(some 59), .extr (.s 51) 1, none, [6], false⟩,
     ⟨(some 60), .extr (.s 51) 2, none, [6], false⟩,
     ⟨(some 61), .fldA 6 false 1 (.s 11), none, [0, 1, 2, 3, 4, 5, 6, 7], false⟩,
     ⟨none, .store 1 (.s 61) (.s 58), none, [10, 7, 5, 0, 1, 2, 3, 4, 6], false⟩,
     ⟨(some 62), .fldA 4 false 1 (.s 11), none, [0, 1, 2, 3, 4, 5, 6, 7, 8, 10, 11], false⟩,
     ⟨none, .store 1 (.s 62) (.s 59), none, [12, 8, 11, 0, 1, 2, 3, 4, 5, 6, 7, 10], false⟩])
   (.seq (.draw [0, 2, 6, 11] [⟨(some 64), .mv (.s 0), none, [], false⟩,
     ⟨(some 65), .call (.c (.fn (.func 42) [] [])) [(.s 64)], none, [0], false⟩,
     ⟨(some 66), .mv (.s 2), none, [], false⟩,
     ⟨(some 67), .fldA 0 false 1 (.s 11), none, [], false⟩,
     ⟨(some 68), .load false 1 (.s 67), none, [3], false⟩,
     ⟨(some 69), .call (.c (.fn (.func 41) [] [])) [(.s 65), (.s 66), (.s 68)], none, [1, 2, 4], false⟩,
     ⟨(some 63), .mv (.s 69), none, [5], false⟩,
     ⟨(some 70), .extr (.s 63) 0, none, [6], false⟩,
     ⟨(some 71), .extr (.s 63) 1, none, [6], false⟩,
     ⟨(some 72), .extr (.s 63) 2, none, [6], false⟩,
     ⟨(some 73), .fldA 7 false 1 (.s 11), none, [0, 1, 2, 3, 4, 5, 6, 7], false⟩,
     ⟨none, .store 1 (.s 73) (.s 70), none, [10, 7, 5, 0, 1, 2, 3, 4, 6], false⟩,
     ⟨(some 74), .fldA 5 false 1 (.s 11), none, [0, 1, 2, 3, 4, 5, 6, 7, 8, 10, 11], false⟩,
     ⟨none, .store 1 (.s 74) (.s 71), none, [12, 8, 11, 0, 1, 2, 3, 4, 5, 6, 7, 10], false⟩])
   (.seq (.reg [6, 11] [⟨(some 75), .load true 8 (.s 11), none, [], false⟩,
     ⟨none, .store 8 (.s 6) (.s 75), none, [], false⟩,
     ⟨(some 7), .mv (.c (.int .i64 0)), none, [], true⟩])
   .ret))))))) }
theorem tr27 : trF Tryz.prog h27 Tryz.f27 = some i27 := by kernel_rfl

-- ashlar/ashlarref9.Common
def h28 : List (List Nat) := [[0, 1, 2], [0, 1, 5], [1, 5, 7, 8, 9], [5, 7, 8, 9, 10, 11, 12], [7, 8, 9, 10, 11, 12, 13], [7, 8, 9, 10, 11, 12, 13, 14]]
def i28 : IFn := { nparams := 3, ntmps := 55, results := [.tmp 6], body :=
  (.seq (.reg [0, 1, 2] [⟨(some 5), .box 2 (.s 2), none, [], false⟩,
     ⟨(some 6), .mv (.c (.int .i64 0)), none, [], true⟩])
   (.seq (.reg [0, 1, 5] [⟨(some 16), .mv (.s 0), none, [], false⟩,
     ⟨(some 17), .call (.c (.fn (.func 43) [] [])) [(.s 16)], none, [], false⟩,
     ⟨(some 15), .mv (.s 17), none, [], false⟩,
     ⟨(some 18), .extr (.s 15) 0, none, [], false⟩,
     ⟨(some 19), .extr (.s 15) 1, none, [], false⟩,
     ⟨(some 20), .extr (.s 15) 2, none, [], false⟩,
     ⟨(some 7), .mv (.s 18), none, [], true⟩,
     ⟨(some 8), .mv (.s 19), none, [], true⟩,
     ⟨(some 9), .mv (.s 20), none, [], true⟩])
   (.seq (.reg [1, 5, 7, 8, 9] [⟨(some 22), .mv (.s 1), none, [], false⟩,
     ⟨(some 23), .call (.c (.fn (.func 43) [] [])) [(.s 22)], none, [], false⟩,
     ⟨(some 21), .mv (.s 23), none, [], false⟩,
     ⟨(some 24), .extr (.s 21) 0, none, [], false⟩,
     ⟨(some 25), .extr (.s 21) 1, none, [], false⟩,
     ⟨(some 26), .extr (.s 21) 2, none, [], false⟩,
     ⟨(some 10), .mv (.s 24), none, [], true⟩,
     ⟨(some 11), .mv (.s 25), none, [], true⟩,
     ⟨(some 12), .mv (.s 26), none, [], true⟩])
   (.seq (.reg [5, 7, 8, 9, 10, 11, 12] [⟨(some 27), .load true 2 (.s 5), none, [], false⟩,
     ⟨(some 28), .call (.c (.fn (.func 44) [] [])) [(.s 27)], none, [], false⟩,
     ⟨(some 13), .mv (.s 28), none, [], true⟩])
   (.seq (.reg [7, 8, 9, 10, 11, 12, 13] [⟨(some 29), .mv (.s 7), none, [], false⟩,
     ⟨(some 30), .mv (.s 10), none, [], false⟩,
     ⟨(some 31), .bin .add .num (.s 29) (.s 30), none, [], false⟩,
     ⟨(some 32), .bin .add .num (.s 31) (.c (.int .i64 2)), none, [], false⟩,
     ⟨(some 14), .mv (.s 32), none, [], true⟩])
   (.seq (.reg [7, 8, 9, 10, 11, 12, 13, 14] [⟨(some 33), .mv (.s 14), none, [], false⟩,
     ⟨(some 34), .mv (.s 14), none, [], false⟩,
     ⟨(some 35), .mv (.s 14), none, [], false⟩,
     ⟨(some 36), .mv (.s 14), none, [], false⟩,
     ⟨(some 37), .mv (.s 8), none, [], false⟩,
     ⟨(some 38), .mv (.s 11), none, [], false⟩,
     ⟨(some 39), .bin .add .num (.s 37) (.s 38), none, [], false⟩,
     ⟨(some 40), .call (.c (.fn (.func 47) [] [])) [(.s 36), (.s 39)], none, [], false⟩,
     ⟨(some 41), .call (.c (.fn (.func 63) [] [])) [(.s 40), (.c (.int .i64 2))], none, [], false⟩,
     ⟨(some 42), .mv (.s 9), none, [], false⟩,
     ⟨(some 43), .mv (.s 12), none, [], false⟩,
     ⟨(some 44), .mv (.s 7), none, [], false⟩,
     ⟨(some 45), .mv (.s 10), none, [], false⟩,
     ⟨(some 46), .bin .add .num (.s 44) (.s 45), none, [], false⟩,
     ⟨(some 47), .bin .add .num (.s 46) (.c (.int .i64 1)), none, [], false⟩,
     ⟨(some 48), .mv (.s 13), none, [], false⟩,
     ⟨(some 49), .bin .add .num (.s 48) (.c (.int .i64 2)), none, [], false⟩,
     ⟨(some 50), .call (.c (.fn (.func 47) [] [])) [(.s 47), (.s 49)], none, [], false⟩,
     ⟨(some 51), .bsl 1 (.int .i64 0) 4 [(0, (.s 42)), (1, (.s 43)), (2, (.s 50)), (3, (.c (.int .i64 8)))], none, [], false⟩,
     ⟨(some 52), .call (.c (.fn (.func 46) [] [])) [(.s 51)], none, [], false⟩,
     ⟨(some 53), .bsl 1 (.int .i64 0) 5 [(0, (.s 33)), (1, (.s 34)), (2, (.s 35)), (3, (.s 41)), (4, (.s 52))], none, [], false⟩,
     ⟨(some 54), .call (.c (.fn (.func 45) [] [])) [(.s 53)], none, [], false⟩,
     ⟨(some 6), .mv (.s 54), none, [], true⟩])
   .ret)))))) }
theorem tr28 : trF Tryz.prog h28 Tryz.f28 = some i28 := by kernel_rfl

-- ashlar/ashlarref8.Is
def h29 : List (List Nat) := [[0, 1], [0, 1], [], [0, 1], [0, 1, 5], [0, 1, 5], [0, 1, 5], [0, 1, 5, 6], [], [0, 1, 5], []]
def i29b0 : ICode :=
  (.seq (.seq (.reg [0, 1, 5] [⟨(some 12), .mv (.s 5), none, [], false⟩,
    ⟨(some 13), .mv (.s 0), none, [], false⟩,
    ⟨(some 14), .len false (.s 13), none, [], false⟩,
    ⟨(some 15), .bin .lss .num (.s 12) (.s 14), none, [], false⟩])
  (.cond (.s 15)
   .skip
   (.exit 0)))
  (.seq (.block 1
   (.seq (.draw [0, 1, 5] [⟨(some 18), .mv (.s 0), none, [], false⟩,
     ⟨(some 19), .mv (.s 5), none, [], false⟩,
     ⟨(some 20), .idxA 1 (.s 18) (.s 19), none, [0, 1], false⟩,
     ⟨(some 21), .load false 1 (.s 20), none, [2], false⟩,
     ⟨(some 22), .mv (.s 1), none, [], false⟩,
     ⟨(some 23), .mv (.s 5), none, [], false⟩,
     ⟨(some 24), .idxA 1 (.s 22) (.s 23), none, [4, 5], false⟩,
     ⟨(some 25), .load false 1 (.s 24), none, [6], false⟩,
     ⟨(some 26), .call (.c (.fn (.func 21) [] [])) [(.s 21), (.s 25)], none, [3, 7], false⟩,
     ⟨(some 6), .mv (.s 26), none, [8, 0, 1, 2, 3, 4, 5, 6, 7], true⟩])
   (.seq (.reg [0, 1, 5, 6] [⟨(some 27), .mv (.s 6), none, [], false⟩,
     ⟨(some 28), .un .not (.s 27), none, [], false⟩])
   (.cond (.s 28)
    (.seq (.reg [] [⟨(some 4), .mv (.c (.bool false)), none, [], true⟩])
    .ret)
    .skip))))
  (.reg [0, 1, 5] [⟨(some 16), .mv (.s 5), none, [], false⟩,
    ⟨(some 17), .bin .add .num (.s 16) (.c (.int .i64 1)), none, [], false⟩,
    ⟨(some 5), .mv (.s 17), none, [], true⟩])))
def i29 : IFn := { nparams := 2, ntmps := 29, results := [.tmp 4], body :=
  (.seq (.reg [0, 1] [⟨(some 4), .mv (.c (.bool false)), none, [], true⟩])
   (.seq (.seq (.reg [0, 1] [⟨(some 7), .mv (.s 0), none, [], false⟩,
     ⟨(some 8), .len false (.s 7), none, [], false⟩,
     ⟨(some 9), .mv (.s 1), none, [], false⟩,
     ⟨(some 10), .len false (.s 9), none, [], false⟩,
     ⟨(some 11), .bin .neq .num (.s 8) (.s 10), none, [], false⟩])
   (.cond (.s 11)
    (.seq (.reg [] [⟨(some 4), .mv (.c (.bool false)), none, [], true⟩])
    .ret)
    .skip))
   (.seq (.seq (.reg [0, 1] [⟨(some 5), .mv (.c (.int .i64 0)), none, [], true⟩])
   (.block 0
    (.loop [0, 1, 5] i29b0)))
   (.seq (.reg [] [⟨(some 4), .mv (.c (.bool true)), none, [], true⟩])
   .ret)))) }
theorem tr29 : trF Tryz.prog h29 Tryz.f29 = some i29 := by kernel_rfl

-- ashlar/ashlarref8.Prim
def h30 : List (List Nat) := [[0], [0], [0, 3], [0, 3, 4], [0, 3, 4, 5], [0, 3, 4, 5], [0, 3, 4, 5], [0, 3, 4, 5, 6], [0, 3, 4, 5], [4], [4], [4]]
def i30b0 : ICode :=
  (.seq (.seq (.reg [0, 3, 4, 5] [⟨(some 10), .mv (.s 5), none, [], false⟩,
    ⟨(some 11), .mv (.s 0), none, [], false⟩,
    ⟨(some 12), .len false (.s 11), none, [], false⟩,
    ⟨(some 13), .bin .lss .num (.s 10) (.s 12), none, [], false⟩])
  (.cond (.s 13)
   .skip
   (.exit 0)))
  (.seq (.block 1
   (.seq (.reg [0, 3, 4, 5] [⟨(some 17), .mv (.s 0), none, [], false⟩,
     ⟨(some 18), .mv (.s 5), none, [], false⟩,
     ⟨(some 19), .idxA 1 (.s 17) (.s 18), none, [], false⟩,
     ⟨(some 20), .load false 1 (.s 19), none, [], false⟩,
     ⟨(some 21), .mv (.s 3), none, [], false⟩,
     ⟨(some 22), .call (.c (.fn (.func 65) [] [])) [(.s 20), (.s 21)], none, [], false⟩,
     ⟨(some 16), .mv (.s 22), none, [], false⟩,
     ⟨(some 23), .extr (.s 16) 0, none, [], false⟩,
     ⟨(some 24), .extr (.s 16) 1, none, [], false⟩,
     ⟨(some 6), .mv (.s 23), none, [], true⟩,
     ⟨(some 7), .mv (.s 24), none, [], true⟩])
   (.reg [0, 3, 4, 5, 6] [⟨(some 25), .mv (.s 4), none, [], false⟩,
     ⟨(some 26), .mv (.s 6), none, [], false⟩,
     ⟨(some 27), .bsl 1 (.sl .nil []) 1 [(0, (.s 26))], none, [], false⟩,
     ⟨(some 28), .app 1 24 (.s 25) (.s 27), none, [], false⟩,
     ⟨(some 4), .mv (.s 28), none, [], true⟩])))
  (.reg [0, 3, 4, 5] [⟨(some 14), .mv (.s 5), none, [], false⟩,
    ⟨(some 15), .bin .add .num (.s 14) (.c (.int .i64 1)), none, [], false⟩,
    ⟨(some 5), .mv (.s 15), none, [], true⟩])))
def i30 : IFn := { nparams := 1, ntmps := 38, results := [.tmp 2], body :=
  (.seq (.reg [0] [⟨(some 2), .mv (.c (.sl .nil [])), none, [], true⟩])
   (.seq (.reg [0] [⟨(some 8), .mv (.s 0), none, [], false⟩,
     ⟨(some 9), .call (.c (.fn (.func 64) [] [])) [(.s 8)], none, [], false⟩,
     ⟨(some 3), .mv (.s 9), none, [], true⟩])
   (.seq (.reg [0, 3] [⟨(some 4), .mv (.c (.sl .nil [])), none, [], true⟩])
   (.seq (.seq (.reg [0, 3, 4] [⟨(some 5), .mv (.c (.int .i64 0)), none, [], true⟩])
   (.block 0
    (.loop [0, 3, 4, 5] i30b0)))
   (.seq (.seq (.reg [4] [⟨(some 29), .mv (.s 4), none, [], false⟩,
     ⟨(some 30), .call (.c (.fn (.func 67) [] [])) [(.s 29)], none, [], false⟩,
     ⟨(some 31), .call (.c (.fn (.func 66) [] [])) [(.s 30)], none, [], false⟩,
     ⟨(some 32), .fld 0 false 1 (.s 31), none, [], false⟩])
   (.cond (.s 32)
    (.reg [4] [⟨(some 33), .bsl 1 (.int .i64 0) 1 [(0, (.c (.int .i64 (-1))))], none, [], false⟩,
      ⟨(some 34), .call (.c (.fn (.func 22) [] [])) [(.s 33)], none, [], false⟩,
      ⟨(some 35), .mv (.s 4), none, [], false⟩,
      ⟨(some 36), .call (.c (.fn (.func 15) [] [])) [(.s 34), (.s 35)], none, [], false⟩,
      ⟨(some 4), .mv (.s 36), none, [], true⟩])
    .skip))
   (.seq (.reg [4] [⟨(some 37), .mv (.s 4), none, [], false⟩,
     ⟨(some 2), .mv (.s 37), none, [], true⟩])
   .ret)))))) }
theorem tr30 : trF Tryz.prog h30 Tryz.f30 = some i30 := by kernel_rfl

-- ashlar/euclid.Multiple
def h31 : List (List Nat) := [[0, 1, 2], [0, 1, 2, 6], [0, 1, 2, 6, 8], [6, 8], [0, 1, 2, 6], [6, 9, 10, 11]]
def i31 : IFn := { nparams := 3, ntmps := 41, results := [.cell 6 true 3, .tmp 7], body :=
  (.seq (.reg [0, 1, 2] [⟨(some 6), .alloc 3 (.agg [(.sl .nil []), (.sl .nil []), (.sl .nil [])]), none, [], false⟩,
     ⟨(some 7), .mv (.c (.int .i64 0)), none, [], true⟩])
   (.seq (.seq (.reg [0, 1, 2, 6] [⟨(some 12), .mv (.s 0), none, [], false⟩,
     ⟨(some 13), .mv (.s 1), none, [], false⟩,
     ⟨(some 14), .call (.c (.fn (.func 39) [] [])) [(.s 13)], none, [], false⟩,
     ⟨(some 15), .bin .lss .num (.s 14) (.c (.int .i64 0)), none, [], false⟩,
     ⟨(some 16), .mv (.s 15), none, [], false⟩,
     ⟨(some 17), .mv (.s 2), (some (16, false)), [], false⟩,
     ⟨(some 18), .call (.c (.fn (.func 39) [] [])) [(.s 17)], (some (16, false)), [], false⟩,
     ⟨(some 19), .bin .lss .num (.s 18) (.c (.int .i64 0)), (some (16, false)), [], false⟩,
     ⟨(some 20), .pick (.s 16) (.c (.bool true)) (.s 19), none, [], false⟩,
     ⟨(some 21), .mv (.s 1), none, [], false⟩,
     ⟨(some 22), .mv (.s 2), none, [], false⟩,
     ⟨(some 23), .call (.c (.fn (.func 38) [] [])) [(.s 12), (.s 20), (.c (.fn (.func 57) [] [])), (.s 21), (.s 22)], none, [], false⟩,
     ⟨(some 8), .mv (.s 23), none, [], true⟩])
   (.seq (.reg [0, 1, 2, 6, 8] [⟨(some 24), .mv (.s 8), none, [], false⟩,
     ⟨(some 25), .bin .neq .num (.s 24) (.c (.int .i64 0)), none, [], false⟩])
   (.cond (.s 25)
    (.seq (.reg [6, 8] [⟨(some 26), .build [(.sl .nil []), (.sl .nil []), (.sl .nil [])] [], none, [], false⟩,
      ⟨(some 27), .mv (.s 8), none, [], false⟩,
      ⟨none, .store 3 (.s 6) (.s 26), none, [], false⟩,
      ⟨(some 7), .mv (.s 27), none, [], true⟩])
    .ret)
    .skip)))
   (.seq (.reg [0, 1, 2, 6] [⟨(some 29), .mv (.s 0), none, [], false⟩,
     ⟨(some 30), .call (.c (.fn (.func 42) [] [])) [(.s 29)], none, [], false⟩,
     ⟨(some 31), .mv (.s 1), none, [], false⟩,
     ⟨(some 32), .mv (.s 2), none, [], false⟩,
     ⟨(some 33), .call (.c (.fn (.func 68) [] [])) [(.s 30), (.s 31), (.s 32)], none, [], false⟩,
     ⟨(some 28), .mv (.s 33), none, [], false⟩,
     ⟨(some 34), .extr (.s 28) 0, none, [], false⟩,
     ⟨(some 35), .extr (.s 28) 1, none, [], false⟩,
     ⟨(some 36), .extr (.s 28) 2, none, [], false⟩,
     ⟨(some 9), .mv (.s 34), none, [], true⟩,
     ⟨(some 10), .mv (.s 35), none, [], true⟩,
     ⟨(some 11), .mv (.s 36), none, [], true⟩])
   (.seq (.reg [6, 9, 10, 11] [⟨(some 37), .mv (.s 9), none, [], false⟩,
     ⟨(some 38), .mv (.s 10), none, [], false⟩,
     ⟨(some 39), .mv (.s 11), none, [], false⟩,
     ⟨(some 40), .build [(.sl .nil []), (.sl .nil []), (.sl .nil [])] [(0, 1, (.s 37)), (1, 1, (.s 38)), (2, 1, (.s 39))], none, [], false⟩,
     ⟨none, .store 3 (.s 6) (.s 40), none, [], false⟩,
     ⟨(some 7), .mv (.c (.int .i64 0)), none, [], true⟩])
   .ret)))) }
theorem tr31 : trF Tryz.prog h31 Tryz.f31 = some i31 := by kernel_rfl

-- ashlar/ashlarlaw8.Op
def h32 : List (List Nat) := [[0], [0], [0, 3], [0, 3, 4], [0, 3, 4], [0, 3, 4], [0, 3, 4], [3]]
def i32b0 : ICode :=
  (.seq (.seq (.reg [0, 3, 4] [⟨(some 5), .mv (.s 4), none, [], false⟩,
    ⟨(some 6), .mv (.s 0), none, [], false⟩,
    ⟨(some 7), .len false (.s 6), none, [], false⟩,
    ⟨(some 8), .bin .lss .num (.s 5) (.s 7), none, [], false⟩])
  (.cond (.s 8)
   .skip
   (.exit 0)))
  (.seq (.block 1
   (.reg [0, 3, 4] [⟨(some 11), .mv (.s 3), none, [], false⟩,
     ⟨(some 12), .mv (.s 0), none, [], false⟩,
     ⟨(some 13), .mv (.s 4), none, [], false⟩,
     ⟨(some 14), .idxA 1 (.s 12) (.s 13), none, [], false⟩,
     ⟨(some 15), .load false 1 (.s 14), none, [], false⟩,
     ⟨(some 16), .bsl 1 (.sl .nil []) 1 [(0, (.s 15))], none, [], false⟩,
     ⟨(some 17), .app 1 24 (.s 11) (.s 16), none, [], false⟩,
     ⟨(some 3), .mv (.s 17), none, [], true⟩]))
  (.reg [0, 3, 4] [⟨(some 9), .mv (.s 4), none, [], false⟩,
    ⟨(some 10), .bin .add .num (.s 9) (.c (.int .i64 1)), none, [], false⟩,
    ⟨(some 4), .mv (.s 10), none, [], true⟩])))
def i32 : IFn := { nparams := 1, ntmps := 21, results := [.tmp 2], body :=
  (.seq (.reg [0] [⟨(some 2), .mv (.c (.sl .nil [])), none, [], true⟩])
   (.seq (.reg [0] [⟨(some 3), .mv (.c (.sl .nil [])), none, [], true⟩])
   (.seq (.seq (.reg [0, 3] [⟨(some 4), .mv (.c (.int .i64 0)), none, [], true⟩])
   (.block 0
    (.loop [0, 3, 4] i32b0)))
   (.seq (.reg [3] [⟨(some 18), .mv (.s 3), none, [], false⟩,
     ⟨(some 19), .call (.c (.fn (.func 37) [] [])) [(.s 18)], none, [], false⟩,
     ⟨(some 20), .call (.c (.fn (.func 26) [] [])) [(.s 19)], none, [], false⟩,
     ⟨(some 2), .mv (.s 20), none, [], true⟩])
   .ret)))) }
theorem tr32 : trF Tryz.prog h32 Tryz.f32 = some i32 := by kernel_rfl

-- ashlar/ore.New
def h33 : List (List Nat) := [[0, 1], [0, 3], [0, 3, 6], [0, 3, 6], [0], [0, 3, 6], [0, 3], [], [0, 3], []]
def i33 : IFn := { nparams := 2, ntmps := 24, results := [.tmp 4, .tmp 5], body :=
  (.seq (.reg [0, 1] [⟨(some 3), .box 2 (.s 1), none, [], false⟩,
     ⟨(some 4), .mv (.c .nilPtr), none, [], true⟩,
     ⟨(some 5), .mv (.c (.int .i64 0)), none, [], true⟩])
   (.seq (.seq (.reg [0, 3] [⟨(some 6), .mv (.s 0), none, [], false⟩])
   (.block 0
    (.seq (.seq (.reg [0, 3, 6] [⟨(some 8), .bin .eql .num (.s 6) (.c (.int .i64 1)), none, [], false⟩,
      ⟨(some 7), .mv (.s 8), none, [], true⟩])
    (.cond (.s 7)
     .skip
     (.reg [0, 3, 6] [⟨(some 9), .bin .eql .num (.s 6) (.c (.int .i64 2)), none, [], false⟩,
       ⟨(some 7), .mv (.s 9), none, [], true⟩])))
    (.cond (.s 7)
     (.seq (.reg [0] [⟨(some 10), .mv (.s 0), none, [], false⟩,
       ⟨(some 11), .build [(.int .i64 0), (.bool false), (.sl .nil [])] [(0, 1, (.s 10))], none, [], false⟩,
       ⟨(some 12), .box 3 (.s 11), none, [], false⟩,
       ⟨(some 4), .mv (.s 12), none, [], true⟩,
       ⟨(some 5), .mv (.c (.int .i64 0)), none, [], true⟩])
     .ret)
     (.seq (.reg [0, 3, 6] [⟨(some 14), .bin .eql .num (.s 6) (.c (.int .i64 3)), none, [], false⟩,
       ⟨(some 13), .mv (.s 14), none, [], true⟩])
     (.cond (.s 13)
      (.seq (.seq (.reg [0, 3] [⟨(some 15), .load true 2 (.s 3), none, [], false⟩,
        ⟨(some 16), .call (.c (.fn (.func 69) [] [])) [(.s 15)], none, [], false⟩,
        ⟨(some 17), .bin .eql .num (.s 16) (.c (.int .i64 0)), none, [], false⟩])
      (.cond (.s 17)
       (.seq (.reg [] [⟨(some 4), .mv (.c .nilPtr), none, [], true⟩,
         ⟨(some 5), .mv (.c (.int .i64 2)), none, [], true⟩])
       .ret)
       .skip))
      (.seq (.reg [0, 3] [⟨(some 18), .mv (.s 0), none, [], false⟩,
        ⟨(some 19), .load true 2 (.s 3), none, [], false⟩,
        ⟨(some 20), .build [(.bool false), (.sl .nil [])] [], none, [], false⟩,
        ⟨(some 21), .call (.c (.fn (.func 70) [] [])) [(.s 19), (.s 20)], none, [], false⟩,
        ⟨(some 22), .build [(.int .i64 0), (.bool false), (.sl .nil [])] [(0, 1, (.s 18)), (1, 2, (.s 21))], none, [], false⟩,
        ⟨(some 23), .box 3 (.s 22), none, [], false⟩,
        ⟨(some 4), .mv (.s 23), none, [], true⟩,
        ⟨(some 5), .mv (.c (.int .i64 0)), none, [], true⟩])
      .ret))
      .skip))))))
   (.seq (.reg [] [⟨(some 4), .mv (.c .nilPtr), none, [], true⟩,
     ⟨(some 5), .mv (.c (.int .i64 10)), none, [], true⟩])
   .ret))) }
theorem tr33 : trF Tryz.prog h33 Tryz.f33 = some i33 := by kernel_rfl
end Go.Proofs.YtpfbgpclhkjgaaaGreat
