/- A part of the proof: an evaluator of programs, its soundness, and what it says of the functions in hand. It holds without further conditions. -/
import Derived.Test.YtpfbgpclhkjgaaaGreatAb23
import Derived.Test.YtpfbgpclhkjgaaaGreatChecked
set_option linter.unusedVariables false
set_option maxRecDepth 100000
namespace Go.Proofs.YtpfbgpclhkjgaaaGreat
open Go.Ab

-- ashlar/ashlarref3.Scale
def h153 : List (List Nat) := [[0, 1], [0, 3], [0, 3, 5], [0, 3, 5, 6], [0, 3, 5, 6], [0, 3, 5, 6], [0, 3, 5, 6], [5]]
def i153b0 : ICode :=
  (.seq (.seq (.reg [0, 3, 5, 6] [⟨(some 7), .mv (.s 6), none, [], false⟩,
    ⟨(some 8), .mv (.s 0), none, [], false⟩,
    ⟨(some 9), .len false (.s 8), none, [], false⟩,
    ⟨(some 10), .bin .lss .num (.s 7) (.s 9), none, [], false⟩])
  (.cond (.s 10)
   .skip
   (.exit 0)))
  (.seq (.block 1
   (.draw [0, 3, 5, 6] [⟨(some 13), .mv (.s 5), none, [], false⟩,
     ⟨(some 14), .load true 2 (.s 3), none, [], false⟩,
     ⟨(some 15), .mv (.s 0), none, [], false⟩,
     ⟨(some 16), .mv (.s 6), none, [], false⟩,
     ⟨(some 17), .idxA 2 (.s 15) (.s 16), none, [2, 3], false⟩,
     ⟨(some 18), .load true 2 (.s 17), none, [4], false⟩,
     ⟨(some 19), .call (.c (.fn (.func 95) [] [])) [(.s 14), (.s 18)], none, [1, 5], false⟩,
     ⟨(some 20), .bsl 2 (.agg [(.bool false), (.sl .nil [])]) 1 [(0, (.s 19))], none, [6], false⟩,
     ⟨(some 21), .app 2 32 (.s 13) (.s 20), none, [0, 7, 6], false⟩,
     ⟨(some 5), .mv (.s 21), none, [8, 0, 1, 2, 3, 4, 5, 6, 7], true⟩]))
  (.reg [0, 3, 5, 6] [⟨(some 11), .mv (.s 6), none, [], false⟩,
    ⟨(some 12), .bin .add .num (.s 11) (.c (.int .i64 1)), none, [], false⟩,
    ⟨(some 6), .mv (.s 12), none, [], true⟩])))
def i153 : IFn := { nparams := 2, ntmps := 24, results := [.tmp 4], body :=
  (.seq (.reg [0, 1] [⟨(some 3), .box 2 (.s 1), none, [], false⟩,
     ⟨(some 4), .mv (.c (.sl .nil [])), none, [], true⟩])
   (.seq (.reg [0, 3] [⟨(some 5), .mv (.c (.sl .nil [])), none, [], true⟩])
   (.seq (.seq (.reg [0, 3, 5] [⟨(some 6), .mv (.c (.int .i64 0)), none, [], true⟩])
   (.block 0
    (.loop [0, 3, 5, 6] i153b0)))
   (.seq (.reg [5] [⟨(some 22), .mv (.s 5), none, [], false⟩,
     ⟨(some 23), .call (.c (.fn (.func 49) [] [])) [(.s 22)], none, [], false⟩,
     ⟨(some 4), .mv (.s 23), none, [], true⟩])
   .ret)))) }
theorem tr153 : trF Tryz.prog h153 Tryz.f153 = some i153 := by kernel_rfl

-- ashlar/ashlarref1.divide
def h154 : List (List Nat) := [[0, 1], [0, 1], [0], [0, 1], [0, 1], [6, 7], [0, 1], [0, 1, 8], [1, 8, 9], [8, 9, 10], [8, 9, 10, 11], [8, 9, 10, 11, 12], [8, 9, 10, 11, 12, 13], [8, 9, 10, 11, 12, 13], [8, 9, 10, 11, 12, 13], [8, 9, 10, 11, 12, 13, 14], [8, 9, 10, 11, 12, 13, 15], [8, 9, 10, 11, 12, 13], [8, 9, 10, 11, 12, 13, 15], [8, 9, 10, 11, 12, 13, 15], [8, 9, 10, 11, 12, 13, 15, 16], [8, 9, 10, 11, 12, 13, 15, 16, 17], [8, 9, 10, 11, 12, 13, 15, 16, 17, 18], [8, 9, 10, 11, 12, 13, 15, 16, 17, 18, 19], [8, 9, 10, 11, 12, 13, 15, 16, 17, 18, 19], [8, 9, 10, 11, 12, 13, 15, 16, 17, 18, 19], [8, 9, 10, 11, 12, 13, 15, 16, 17, 18, 19], [8, 9, 10, 11, 12, 13, 15, 16, 17, 18, 19], [8, 9, 10, 11, 12, 13, 15, 16, 18, 19, 20], [8, 9, 10, 11, 12, 13, 15, 16, 18, 19, 20], [8, 9, 10, 11, 12, 13, 15, 16, 17, 18, 19, 20], [8, 9, 10, 11, 12, 13, 15, 16, 18, 19, 20], [8, 9, 10, 11, 12, 13, 15, 16, 18, 19, 20], [8, 9, 10, 11, 12, 13, 15, 16, 17, 18, 19, 20], [8, 9, 10, 11, 12, 13, 15, 16, 17, 18, 19], [8, 9, 10, 11, 12, 13, 15, 17, 18], [8, 9, 10, 11, 12, 13, 15, 18], [8, 9, 10, 11, 12, 13, 15, 18, 21], [8, 9, 10, 11, 12, 13, 15, 18, 21], [8, 9, 10, 11, 12, 13, 15, 18, 21], [8, 9, 10, 11, 12, 13, 15, 18, 21], [8, 9, 10, 11, 12, 13, 15], [8, 9, 10, 11, 12, 13, 15], [8, 9, 10, 11, 12, 13], [8, 9, 12], [12, 22]]
def i154b0 : ICode :=
  (.seq (.seq (.reg [8, 9, 10, 11, 12, 13, 15, 16, 17, 18, 19] [⟨(some 102), .mv (.s 19), none, [], false⟩,
    ⟨(some 103), .mv (.s 11), none, [], false⟩,
    ⟨(some 104), .bin .leq .num (.s 102) (.s 103), none, [], false⟩])
  (.cond (.s 104)
   .skip
   (.exit 4)))
  (.seq (.block 5
   (.seq (.seq (.reg [8, 9, 10, 11, 12, 13, 15, 16, 17, 18, 19] [⟨(some 107), .mv (.s 19), none, [], false⟩,
     ⟨(some 108), .mv (.s 11), none, [], false⟩,
     ⟨(some 109), .bin .lss .num (.s 107) (.s 108), none, [], false⟩])
   (.cond (.s 109)
    (.reg [8, 9, 10, 11, 12, 13, 15, 16, 17, 18, 19] [⟨(some 110), .mv (.s 16), none, [], false⟩,
      ⟨(some 111), .mv (.s 10), none, [], false⟩,
      ⟨(some 112), .mv (.s 19), none, [], false⟩,
      ⟨(some 113), .idxA 1 (.s 111) (.s 112), none, [], false⟩,
      ⟨(some 114), .load false 1 (.s 113), none, [], false⟩,
      ⟨(some 115), .mv (.s 15), none, [], false⟩,
      ⟨(some 116), .bin .mul .num (.s 114) (.s 115), none, [], false⟩,
      ⟨(some 117), .bin .add .num (.s 110) (.s 116), none, [], false⟩,
      ⟨(some 16), .mv (.s 117), none, [], true⟩])
    .skip))
   (.seq (.reg [8, 9, 10, 11, 12, 13, 15, 16, 17, 18, 19] [⟨(some 118), .mv (.s 9), none, [], false⟩,
     ⟨(some 119), .mv (.s 13), none, [], false⟩,
     ⟨(some 120), .mv (.s 19), none, [], false⟩,
     ⟨(some 121), .bin .add .num (.s 119) (.s 120), none, [], false⟩,
     ⟨(some 122), .idxA 1 (.s 118) (.s 121), none, [], false⟩,
     ⟨(some 123), .load false 1 (.s 122), none, [], false⟩,
     ⟨(some 124), .mv (.s 16), none, [], false⟩,
     ⟨(some 125), .bin .rem .num (.s 124) (.c (.int .i64 65536)), none, [], false⟩,
     ⟨(some 126), .bin .sub .num (.s 123) (.s 125), none, [], false⟩,
     ⟨(some 127), .mv (.s 17), none, [], false⟩,
     ⟨(some 128), .bin .sub .num (.s 126) (.s 127), none, [], false⟩,
     ⟨(some 20), .mv (.s 128), none, [], true⟩])
   (.seq (.reg [8, 9, 10, 11, 12, 13, 15, 16, 18, 19, 20] [⟨(some 129), .mv (.s 16), none, [], false⟩,
     ⟨(some 130), .bin .quo .num (.s 129) (.c (.int .i64 65536)), none, [], false⟩,
     ⟨(some 16), .mv (.s 130), none, [], true⟩])
   (.seq (.reg [8, 9, 10, 11, 12, 13, 15, 16, 18, 19, 20] [⟨(some 17), .mv (.c (.int .i64 0)), none, [], true⟩])
   (.seq (.seq (.reg [8, 9, 10, 11, 12, 13, 15, 16, 17, 18, 19, 20] [⟨(some 131), .mv (.s 20), none, [], false⟩,
     ⟨(some 132), .bin .lss .num (.s 131) (.c (.int .i64 0)), none, [], false⟩])
   (.cond (.s 132)
    (.seq (.reg [8, 9, 10, 11, 12, 13, 15, 16, 18, 19, 20] [⟨(some 133), .mv (.s 20), none, [], false⟩,
      ⟨(some 134), .bin .add .num (.s 133) (.c (.int .i64 65536)), none, [], false⟩,
      ⟨(some 20), .mv (.s 134), none, [], true⟩])
    (.reg [8, 9, 10, 11, 12, 13, 15, 16, 18, 19, 20] [⟨(some 17), .mv (.c (.int .i64 1)), none, [], true⟩]))
    .skip))
   (.reg [8, 9, 10, 11, 12, 13, 15, 16, 17, 18, 19, 20] [⟨(some 135), .mv (.s 18), none, [], false⟩,
     ⟨(some 136), .mv (.s 19), none, [], false⟩,
     ⟨(some 137), .mv (.s 20), none, [], false⟩,
     ⟨(some 138), .idxA 1 (.s 135) (.s 136), none, [], false⟩,
     ⟨none, .store 1 (.s 138) (.s 137), none, [], false⟩])))))))
  (.reg [8, 9, 10, 11, 12, 13, 15, 16, 17, 18, 19] [⟨(some 105), .mv (.s 19), none, [], false⟩,
    ⟨(some 106), .bin .add .num (.s 105) (.c (.int .i64 1)), none, [], false⟩,
    ⟨(some 19), .mv (.s 106), none, [], true⟩])))
def i154b1 : ICode :=
  (.seq (.seq (.reg [8, 9, 10, 11, 12, 13, 15, 18, 21] [⟨(some 141), .mv (.s 21), none, [], false⟩,
    ⟨(some 142), .mv (.s 11), none, [], false⟩,
    ⟨(some 143), .bin .leq .num (.s 141) (.s 142), none, [], false⟩])
  (.cond (.s 143)
   .skip
   (.exit 6)))
  (.seq (.block 7
   (.reg [8, 9, 10, 11, 12, 13, 15, 18, 21] [⟨(some 146), .mv (.s 9), none, [], false⟩,
     ⟨(some 147), .mv (.s 13), none, [], false⟩,
     ⟨(some 148), .mv (.s 21), none, [], false⟩,
     ⟨(some 149), .bin .add .num (.s 147) (.s 148), none, [], false⟩,
     ⟨(some 150), .mv (.s 18), none, [], false⟩,
     ⟨(some 151), .mv (.s 21), none, [], false⟩,
     ⟨(some 152), .idxA 1 (.s 150) (.s 151), none, [], false⟩,
     ⟨(some 153), .load false 1 (.s 152), none, [], false⟩,
     ⟨(some 154), .idxA 1 (.s 146) (.s 149), none, [], false⟩,
     ⟨none, .store 1 (.s 154) (.s 153), none, [], false⟩]))
  (.reg [8, 9, 10, 11, 12, 13, 15, 18, 21] [⟨(some 144), .mv (.s 21), none, [], false⟩,
    ⟨(some 145), .bin .add .num (.s 144) (.c (.int .i64 1)), none, [], false⟩,
    ⟨(some 21), .mv (.s 145), none, [], true⟩])))
def i154b2 : ICode :=
  (.block 3
   (.seq (.reg [8, 9, 10, 11, 12, 13, 15] [⟨(some 16), .mv (.c (.int .i64 0)), none, [], true⟩])
   (.seq (.reg [8, 9, 10, 11, 12, 13, 15, 16] [⟨(some 17), .mv (.c (.int .i64 0)), none, [], true⟩])
   (.seq (.reg [8, 9, 10, 11, 12, 13, 15, 16, 17] [⟨(some 99), .mv (.s 11), none, [], false⟩,
     ⟨(some 100), .bin .add .num (.s 99) (.c (.int .i64 1)), none, [], false⟩,
     ⟨(some 101), .mksl 1 8 (.int .i64 0) (.s 100) (.s 100), none, [], false⟩,
     ⟨(some 18), .mv (.s 101), none, [], true⟩])
   (.seq (.seq (.reg [8, 9, 10, 11, 12, 13, 15, 16, 17, 18] [⟨(some 19), .mv (.c (.int .i64 0)), none, [], true⟩])
   (.block 4
    (.loop [8, 9, 10, 11, 12, 13, 15, 16, 17, 18, 19] i154b0)))
   (.seq (.seq (.reg [8, 9, 10, 11, 12, 13, 15, 17, 18] [⟨(some 139), .mv (.s 17), none, [], false⟩,
     ⟨(some 140), .bin .eql .num (.s 139) (.c (.int .i64 0)), none, [], false⟩])
   (.cond (.s 140)
    (.seq (.seq (.reg [8, 9, 10, 11, 12, 13, 15, 18] [⟨(some 21), .mv (.c (.int .i64 0)), none, [], true⟩])
    (.block 6
     (.loop [8, 9, 10, 11, 12, 13, 15, 18, 21] i154b1)))
    (.exit 2))
    .skip))
   (.reg [8, 9, 10, 11, 12, 13, 15] [⟨(some 155), .mv (.s 15), none, [], false⟩,
     ⟨(some 156), .bin .sub .num (.s 155) (.c (.int .i64 1)), none, [], false⟩,
     ⟨(some 15), .mv (.s 156), none, [], true⟩])))))))
def i154b3 : ICode :=
  (.seq (.seq (.reg [8, 9, 10, 11, 12, 13] [⟨(some 71), .mv (.s 13), none, [], false⟩,
    ⟨(some 72), .bin .geq .num (.s 71) (.c (.int .i64 0)), none, [], false⟩])
  (.cond (.s 72)
   .skip
   (.exit 0)))
  (.seq (.block 1
   (.seq (.draw [8, 9, 10, 11, 12, 13] [⟨(some 75), .mv (.s 9), none, [], false⟩,
     ⟨(some 76), .mv (.s 13), none, [], false⟩,
     ⟨(some 77), .mv (.s 11), none, [], false⟩,
     ⟨(some 78), .bin .add .num (.s 76) (.s 77), none, [1, 2], false⟩,
     ⟨(some 79), .idxA 1 (.s 75) (.s 78), none, [0, 3], false⟩,
     ⟨(some 80), .load false 1 (.s 79), none, [4], false⟩,
     ⟨(some 81), .bin .mul .num (.s 80) (.c (.int .i64 65536)), none, [5], false⟩,
     ⟨(some 82), .mv (.s 9), none, [], false⟩,
     ⟨(some 83), .mv (.s 13), none, [], false⟩,
     ⟨(some 84), .mv (.s 11), none, [], false⟩,
     ⟨(some 85), .bin .add .num (.s 83) (.s 84), none, [8, 9], false⟩,
     ⟨(some 86), .bin .sub .num (.s 85) (.c (.int .i64 1)), none, [10], false⟩,
     ⟨(some 87), .idxA 1 (.s 82) (.s 86), none, [7, 11], false⟩,
     ⟨(some 88), .load false 1 (.s 87), none, [12], false⟩,
     ⟨(some 89), .bin .add .num (.s 81) (.s 88), none, [6, 13], false⟩,
     ⟨(some 14), .mv (.s 89), none, [14, 0, 1, 2, 3, 4, 5, 6, 7, 8, 9, 10, 11, 12, 13], true⟩])
   (.seq (.reg [8, 9, 10, 11, 12, 13, 14] [⟨(some 90), .mv (.s 14), none, [], false⟩,
     ⟨(some 91), .mv (.s 10), none, [], false⟩,
     ⟨(some 92), .mv (.s 11), none, [], false⟩,
     ⟨(some 93), .bin .sub .num (.s 92) (.c (.int .i64 1)), none, [], false⟩,
     ⟨(some 94), .idxA 1 (.s 91) (.s 93), none, [], false⟩,
     ⟨(some 95), .load false 1 (.s 94), none, [], false⟩,
     ⟨(some 96), .bin .quo .num (.s 90) (.s 95), none, [], false⟩,
     ⟨(some 15), .mv (.s 96), none, [], true⟩])
   (.seq (.seq (.reg [8, 9, 10, 11, 12, 13, 15] [⟨(some 97), .mv (.s 15), none, [], false⟩,
     ⟨(some 98), .bin .geq .num (.s 97) (.c (.int .i64 65536)), none, [], false⟩])
   (.cond (.s 98)
    (.reg [8, 9, 10, 11, 12, 13] [⟨(some 15), .mv (.c (.int .i64 65535)), none, [], true⟩])
    .skip))
   (.seq (.block 2
    (.loop [8, 9, 10, 11, 12, 13, 15] i154b2))
   (.reg [8, 9, 10, 11, 12, 13, 15] [⟨(some 157), .mv (.s 12), none, [], false⟩,
     ⟨(some 158), .mv (.s 13), none, [], false⟩,
     ⟨(some 159), .mv (.s 15), none, [], false⟩,
     ⟨(some 160), .idxA 1 (.s 157) (.s 158), none, [], false⟩,
     ⟨none, .store 1 (.s 160) (.s 159), none, [], false⟩]))))))
  (.reg [8, 9, 10, 11, 12, 13] [⟨(some 73), .mv (.s 13), none, [], false⟩,
    ⟨(some 74), .bin .sub .num (.s 73) (.c (.int .i64 1)), none, [], false⟩,
    ⟨(some 13), .mv (.s 74), none, [], true⟩])))
def i154 : IFn := { nparams := 2, ntmps := 171, results := [.tmp 4, .tmp 5], body :=
  (.seq (.reg [0, 1] [⟨(some 4), .mv (.c (.sl .nil [])), none, [], true⟩,
     ⟨(some 5), .mv (.c (.sl .nil [])), none, [], true⟩])
   (.seq (.seq (.reg [0, 1] [⟨(some 24), .mv (.s 0), none, [], false⟩,
     ⟨(some 25), .mv (.s 1), none, [], false⟩,
     ⟨(some 26), .call (.c (.fn (.func 139) [] [])) [(.s 24), (.s 25)], none, [], false⟩,
     ⟨(some 27), .bin .lss .num (.s 26) (.c (.int .i64 0)), none, [], false⟩])
   (.cond (.s 27)
    (.seq (.reg [0] [⟨(some 28), .mv (.s 0), none, [], false⟩,
      ⟨(some 4), .mv (.c (.sl .nil [])), none, [], true⟩,
      ⟨(some 5), .mv (.s 28), none, [], true⟩])
    .ret)
    .skip))
   (.seq (.seq (.reg [0, 1] [⟨(some 29), .mv (.s 1), none, [], false⟩,
     ⟨(some 30), .len false (.s 29), none, [], false⟩,
     ⟨(some 31), .bin .eql .num (.s 30) (.c (.int .i64 1)), none, [], false⟩])
   (.cond (.s 31)
    (.seq (.reg [0, 1] [⟨(some 33), .mv (.s 0), none, [], false⟩,
      ⟨(some 34), .mv (.s 1), none, [], false⟩,
      ⟨(some 35), .idxA 1 (.s 34) (.c (.int .i64 0)), none, [], false⟩,
      ⟨(some 36), .load false 1 (.s 35), none, [], false⟩,
      ⟨(some 37), .call (.c (.fn (.func 181) [] [])) [(.s 33), (.s 36)], none, [], false⟩,
      ⟨(some 32), .mv (.s 37), none, [], false⟩,
      ⟨(some 38), .extr (.s 32) 0, none, [], false⟩,
      ⟨(some 39), .extr (.s 32) 1, none, [], false⟩,
      ⟨(some 6), .mv (.s 38), none, [], true⟩,
      ⟨(some 7), .mv (.s 39), none, [], true⟩])
    (.seq (.reg [6, 7] [⟨(some 40), .mv (.s 6), none, [], false⟩,
      ⟨(some 41), .mv (.s 7), none, [], false⟩,
      ⟨(some 42), .bsl 1 (.int .i64 0) 1 [(0, (.s 41))], none, [], false⟩,
      ⟨(some 4), .mv (.s 40), none, [], true⟩,
      ⟨(some 5), .mv (.s 42), none, [], true⟩])
    .ret))
    .skip))
   (.seq (.reg [0, 1] [⟨(some 43), .mv (.s 1), none, [], false⟩,
     ⟨(some 44), .mv (.s 1), none, [], false⟩,
     ⟨(some 45), .len false (.s 44), none, [], false⟩,
     ⟨(some 46), .bin .sub .num (.s 45) (.c (.int .i64 1)), none, [], false⟩,
     ⟨(some 47), .idxA 1 (.s 43) (.s 46), none, [], false⟩,
     ⟨(some 48), .load false 1 (.s 47), none, [], false⟩,
     ⟨(some 49), .bin .add .num (.s 48) (.c (.int .i64 1)), none, [], false⟩,
     ⟨(some 50), .bin .quo .num (.c (.int .i64 65536)) (.s 49), none, [], false⟩,
     ⟨(some 8), .mv (.s 50), none, [], true⟩])
   (.seq (.reg [0, 1, 8] [⟨(some 51), .mv (.s 0), none, [], false⟩,
     ⟨(some 52), .mv (.s 8), none, [], false⟩,
     ⟨(some 53), .call (.c (.fn (.func 182) [] [])) [(.s 51), (.s 52)], none, [], false⟩,
     ⟨(some 9), .mv (.s 53), none, [], true⟩])
   (.seq (.reg [1, 8, 9] [⟨(some 54), .mv (.s 1), none, [], false⟩,
     ⟨(some 55), .mv (.s 8), none, [], false⟩,
     ⟨(some 56), .call (.c (.fn (.func 182) [] [])) [(.s 54), (.s 55)], none, [], false⟩,
     ⟨(some 57), .call (.c (.fn (.func 72) [] [])) [(.c (.bool false)), (.s 56)], none, [], false⟩,
     ⟨(some 58), .fld 1 false 1 (.s 57), none, [], false⟩,
     ⟨(some 10), .mv (.s 58), none, [], true⟩])
   (.seq (.reg [8, 9, 10] [⟨(some 59), .mv (.s 10), none, [], false⟩,
     ⟨(some 60), .len false (.s 59), none, [], false⟩,
     ⟨(some 11), .mv (.s 60), none, [], true⟩])
   (.seq (.reg [8, 9, 10, 11] [⟨(some 61), .mv (.s 9), none, [], false⟩,
     ⟨(some 62), .len false (.s 61), none, [], false⟩,
     ⟨(some 63), .mv (.s 11), none, [], false⟩,
     ⟨(some 64), .bin .sub .num (.s 62) (.s 63), none, [], false⟩,
     ⟨(some 65), .mksl 1 8 (.int .i64 0) (.s 64) (.s 64), none, [], false⟩,
     ⟨(some 12), .mv (.s 65), none, [], true⟩])
   (.seq (.seq (.reg [8, 9, 10, 11, 12] [⟨(some 66), .mv (.s 9), none, [], false⟩,
     ⟨(some 67), .len false (.s 66), none, [], false⟩,
     ⟨(some 68), .mv (.s 11), none, [], false⟩,
     ⟨(some 69), .bin .sub .num (.s 67) (.s 68), none, [], false⟩,
     ⟨(some 70), .bin .sub .num (.s 69) (.c (.int .i64 1)), none, [], false⟩,
     ⟨(some 13), .mv (.s 70), none, [], true⟩])
   (.block 0
    (.loop [8, 9, 10, 11, 12, 13] i154b3)))
   (.seq (.reg [8, 9, 12] [⟨(some 162), .mv (.s 9), none, [], false⟩,
     ⟨(some 163), .call (.c (.fn (.func 72) [] [])) [(.c (.bool false)), (.s 162)], none, [], false⟩,
     ⟨(some 164), .fld 1 false 1 (.s 163), none, [], false⟩,
     ⟨(some 165), .mv (.s 8), none, [], false⟩,
     ⟨(some 166), .call (.c (.fn (.func 181) [] [])) [(.s 164), (.s 165)], none, [], false⟩,
     ⟨(some 161), .mv (.s 166), none, [], false⟩,
     ⟨(some 167), .extr (.s 161) 0, none, [], false⟩,
     ⟨(some 168), .extr (.s 161) 1, none, [], false⟩,
     ⟨(some 22), .mv (.s 167), none, [], true⟩,
     ⟨(some 23), .mv (.s 168), none, [], true⟩])
   (.seq (.reg [12, 22] [⟨(some 169), .mv (.s 12), none, [], false⟩,
     ⟨(some 170), .mv (.s 22), none, [], false⟩,
     ⟨(some 4), .mv (.s 169), none, [], true⟩,
     ⟨(some 5), .mv (.s 170), none, [], true⟩])
   .ret))))))))))) }
theorem tr154 : trF Tryz.prog h154 Tryz.f154 = some i154 := by kernel_rfl

-- ashlar/ashlarref1.Sub
def h155 : List (List Nat) := [[0, 1], [2, 3, 4]]
def i155 : IFn := { nparams := 2, ntmps := 9, results := [.cell 4 true 2], body :=
  (.seq (.reg [0, 1] [⟨(some 2), .box 2 (.s 0), none, [], false⟩,
     ⟨(some 3), .box 2 (.s 1), none, [], false⟩,
     ⟨(some 4), .alloc 2 (.agg [(.bool false), (.sl .nil [])]), none, [], false⟩])
   (.seq (.draw [2, 3, 4] [⟨(some 5), .load true 2 (.s 2), none, [], false⟩,
     ⟨(some 6), .load true 2 (.s 3), none, [], false⟩,
     ⟨(some 7), .call (.c (.fn (.func 179) [] [])) [(.s 6)], none, [1], false⟩,
     ⟨(some 8), .call (.c (.fn (.func 94) [] [])) [(.s 5), (.s 7)], none, [0, 2], false⟩,
     ⟨none, .store 2 (.s 4) (.s 8), none, [3, 0, 1, 2], false⟩])
   .ret)) }
theorem tr155 : trF Tryz.prog h155 Tryz.f155 = some i155 := by kernel_rfl

-- ashlar/limbs.trim
def h156 : List (List Nat) := [[0], [0], [0, 3], [0, 3], [0, 3], [0, 3]]
def i156b0 : ICode :=
  (.seq (.seq (.reg [0, 3] [⟨(some 6), .mv (.s 3), none, [], false⟩,
    ⟨(some 7), .bin .gtr .num (.s 6) (.c (.int .i64 0)), none, [], false⟩,
    ⟨(some 8), .mv (.s 7), none, [], false⟩,
    ⟨(some 9), .mv (.s 0), (some (8, true)), [], false⟩,
    ⟨(some 10), .mv (.s 3), (some (8, true)), [], false⟩,
    ⟨(some 11), .bin .sub .num (.s 10) (.c (.int .i64 1)), (some (8, true)), [], false⟩,
    ⟨(some 12), .idxA 1 (.s 9) (.s 11), (some (8, true)), [], false⟩,
    ⟨(some 13), .load false 1 (.s 12), (some (8, true)), [], false⟩,
    ⟨(some 14), .bin .eql .num (.s 13) (.c (.int .u32 0)), (some (8, true)), [], false⟩,
    ⟨(some 15), .pick (.s 8) (.s 14) (.c (.bool false)), none, [], false⟩])
  (.cond (.s 15)
   .skip
   (.exit 0)))
  (.block 1
   (.reg [0, 3] [⟨(some 16), .mv (.s 3), none, [], false⟩,
     ⟨(some 17), .bin .sub .num (.s 16) (.c (.int .i64 1)), none, [], false⟩,
     ⟨(some 3), .mv (.s 17), none, [], true⟩])))
def i156 : IFn := { nparams := 1, ntmps := 21, results := [.tmp 2], body :=
  (.seq (.reg [0] [⟨(some 2), .mv (.c (.sl .nil [])), none, [], true⟩])
   (.seq (.reg [0] [⟨(some 4), .mv (.s 0), none, [], false⟩,
     ⟨(some 5), .len false (.s 4), none, [], false⟩,
     ⟨(some 3), .mv (.s 5), none, [], true⟩])
   (.seq (.block 0
    (.loop [0, 3] i156b0))
   (.seq (.reg [0, 3] [⟨(some 18), .mv (.s 0), none, [], false⟩,
     ⟨(some 19), .mv (.s 3), none, [], false⟩,
     ⟨(some 20), .slice 1 (.s 18) none (some (.s 19)) none, none, [], false⟩,
     ⟨(some 2), .mv (.s 20), none, [], true⟩])
   .ret)))) }
theorem tr156 : trF Tryz.prog h156 Tryz.f156 = some i156 := by kernel_rfl

-- ashlar/limbs.neg
def h157 : List (List Nat) := [[0], [1]]
def i157 : IFn := { nparams := 1, ntmps := 11, results := [.tmp 2], body :=
  (.seq (.reg [0] [⟨(some 1), .box 2 (.s 0), none, [], false⟩,
     ⟨(some 2), .mv (.c (.bool false)), none, [], true⟩])
   (.seq (.reg [1] [⟨(some 3), .fldA 0 false 1 (.s 1), none, [], false⟩,
     ⟨(some 4), .load false 1 (.s 3), none, [], false⟩,
     ⟨(some 5), .mv (.s 4), none, [], false⟩,
     ⟨(some 6), .load true 2 (.s 1), (some (5, true)), [], false⟩,
     ⟨(some 7), .call (.c (.fn (.func 115) [] [])) [(.s 6)], (some (5, true)), [], false⟩,
     ⟨(some 8), .len false (.s 7), (some (5, true)), [], false⟩,
     ⟨(some 9), .bin .gtr .num (.s 8) (.c (.int .i64 0)), (some (5, true)), [], false⟩,
     ⟨(some 10), .pick (.s 5) (.s 9) (.c (.bool false)), none, [], false⟩,
     ⟨(some 2), .mv (.s 10), none, [], true⟩])
   .ret)) }
theorem tr157 : trF Tryz.prog h157 Tryz.f157 = some i157 := by kernel_rfl

-- ashlar/limbs.plus
def h158 : List (List Nat) := [[0, 1], [0, 1], [0, 1], [0, 1], [0, 1, 5], [0, 1, 5, 6], [0, 1, 5, 6, 20, 21], [0, 1, 5, 6, 20, 21], [0, 1, 5, 6, 20, 21], [0, 1, 5, 6, 7, 20, 21], [0, 1, 5, 6, 7, 20, 21], [0, 1, 5, 6, 7, 20, 21], [0, 1, 5, 6, 7, 20, 21], [0, 1, 5, 6, 20, 21], [0, 1, 5, 6, 20, 21], [0, 5, 6], [5]]
def i158b0 : ICode :=
  (.seq (.reg [0, 1, 5, 6, 20, 21] [⟨(some 22), .bin .lss .num (.s 21) (.s 20), none, [], false⟩])
  (.seq (.cond (.s 22)
   .skip
   (.exit 0))
  (.seq (.block 1
   (.seq (.reg [0, 1, 5, 6, 20, 21] [⟨(some 23), .mv (.s 21), none, [], false⟩,
     ⟨(some 7), .mv (.s 23), none, [], true⟩])
   (.seq (.reg [0, 1, 5, 6, 7, 20, 21] [⟨(some 24), .mv (.s 6), none, [], false⟩,
     ⟨(some 25), .mv (.s 0), none, [], false⟩,
     ⟨(some 26), .mv (.s 7), none, [], false⟩,
     ⟨(some 27), .idxA 1 (.s 25) (.s 26), none, [], false⟩,
     ⟨(some 28), .load false 1 (.s 27), none, [], false⟩,
     ⟨(some 29), .conv .u64 (.s 28), none, [], false⟩,
     ⟨(some 30), .bin .add .num (.s 24) (.s 29), none, [], false⟩,
     ⟨(some 6), .mv (.s 30), none, [], true⟩])
   (.seq (.seq (.reg [0, 1, 5, 6, 7, 20, 21] [⟨(some 31), .mv (.s 7), none, [], false⟩,
     ⟨(some 32), .mv (.s 1), none, [], false⟩,
     ⟨(some 33), .len false (.s 32), none, [], false⟩,
     ⟨(some 34), .bin .lss .num (.s 31) (.s 33), none, [], false⟩])
   (.cond (.s 34)
    (.reg [0, 1, 5, 6, 7, 20, 21] [⟨(some 35), .mv (.s 6), none, [], false⟩,
      ⟨(some 36), .mv (.s 1), none, [], false⟩,
      ⟨(some 37), .mv (.s 7), none, [], false⟩,
      ⟨(some 38), .idxA 1 (.s 36) (.s 37), none, [], false⟩,
      ⟨(some 39), .load false 1 (.s 38), none, [], false⟩,
      ⟨(some 40), .conv .u64 (.s 39), none, [], false⟩,
      ⟨(some 41), .bin .add .num (.s 35) (.s 40), none, [], false⟩,
      ⟨(some 6), .mv (.s 41), none, [], true⟩])
    .skip))
   (.seq (.reg [0, 1, 5, 6, 7, 20, 21] [⟨(some 42), .mv (.s 5), none, [], false⟩,
     ⟨(some 43), .mv (.s 7), none, [], false⟩,
     ⟨(some 44), .mv (.s 6), none, [], false⟩,
     ⟨(some 45), .conv .u32 (.s 44), none, [], false⟩,
     ⟨(some 46), .idxA 1 (.s 42) (.s 43), none, [], false⟩,
     ⟨none, .store 1 (.s 46) (.s 45), none, [], false⟩])
   (.reg [0, 1, 5, 6, 20, 21] [⟨(some 47), .mv (.s 6), none, [], false⟩,
     ⟨(some 48), .bin .shr .num (.s 47) (.c (.int .u64 32)), none, [], false⟩,
     ⟨(some 6), .mv (.s 48), none, [], true⟩]))))))
  (.reg [0, 1, 5, 6, 20, 21] [⟨(some 49), .bin .add .num (.s 21) (.c (.int .i64 1)), none, [], false⟩,
    ⟨(some 21), .mv (.s 49), none, [], false⟩]))))
def i158 : IFn := { nparams := 2, ntmps := 58, results := [.tmp 4], body :=
  (.seq (.reg [0, 1] [⟨(some 4), .mv (.c (.sl .nil [])), none, [], true⟩])
   (.seq (.seq (.reg [0, 1] [⟨(some 8), .mv (.s 0), none, [], false⟩,
     ⟨(some 9), .len false (.s 8), none, [], false⟩,
     ⟨(some 10), .mv (.s 1), none, [], false⟩,
     ⟨(some 11), .len false (.s 10), none, [], false⟩,
     ⟨(some 12), .bin .lss .num (.s 9) (.s 11), none, [], false⟩])
   (.cond (.s 12)
    (.reg [0, 1] [⟨(some 13), .mv (.s 1), none, [], false⟩,
      ⟨(some 14), .mv (.s 0), none, [], false⟩,
      ⟨(some 0), .mv (.s 13), none, [], true⟩,
      ⟨(some 1), .mv (.s 14), none, [], true⟩])
    .skip))
   (.seq (.reg [0, 1] [⟨(some 15), .mv (.s 0), none, [], false⟩,
     ⟨(some 16), .len false (.s 15), none, [], false⟩,
     ⟨(some 17), .bin .add .num (.s 16) (.c (.int .i64 1)), none, [], false⟩,
     ⟨(some 18), .mksl 1 4 (.int .u32 0) (.s 17) (.s 17), none, [], false⟩,
     ⟨(some 5), .mv (.s 18), none, [], true⟩])
   (.seq (.reg [0, 1, 5] [⟨(some 6), .mv (.c (.int .u64 0)), none, [], true⟩])
   (.seq (.seq (.reg [0, 1, 5, 6] [⟨(some 19), .mv (.s 0), none, [], false⟩,
     ⟨(some 20), .len false (.s 19), none, [], false⟩,
     ⟨(some 21), .mv (.c (.int .i64 0)), none, [], false⟩])
   (.block 0
    (.loop [0, 1, 5, 6, 20, 21] i158b0)))
   (.seq (.reg [0, 5, 6] [⟨(some 50), .mv (.s 5), none, [], false⟩,
     ⟨(some 51), .mv (.s 0), none, [], false⟩,
     ⟨(some 52), .len false (.s 51), none, [], false⟩,
     ⟨(some 53), .mv (.s 6), none, [], false⟩,
     ⟨(some 54), .conv .u32 (.s 53), none, [], false⟩,
     ⟨(some 55), .idxA 1 (.s 50) (.s 52), none, [], false⟩,
     ⟨none, .store 1 (.s 55) (.s 54), none, [], false⟩])
   (.seq (.reg [5] [⟨(some 56), .mv (.s 5), none, [], false⟩,
     ⟨(some 57), .call (.c (.fn (.func 156) [] [])) [(.s 56)], none, [], false⟩,
     ⟨(some 4), .mv (.s 57), none, [], true⟩])
   .ret))))))) }
theorem tr158 : trF Tryz.prog h158 Tryz.f158 = some i158 := by kernel_rfl

-- ashlar/limbs.cmp
def h159 : List (List Nat) := [[0, 1], [0, 1], [0, 1], [], [], [0, 1], [0, 1, 5], [0, 1, 5], [0, 1, 5], [0, 1, 5], [], [], [0, 1, 5], []]
def i159b0 : ICode :=
  (.seq (.seq (.reg [0, 1, 5] [⟨(some 19), .mv (.s 5), none, [], false⟩,
    ⟨(some 20), .bin .geq .num (.s 19) (.c (.int .i64 0)), none, [], false⟩])
  (.cond (.s 20)
   .skip
   (.exit 0)))
  (.seq (.block 1
   (.seq (.draw [0, 1, 5] [⟨(some 23), .mv (.s 0), none, [], false⟩,
     ⟨(some 24), .mv (.s 5), none, [], false⟩,
     ⟨(some 25), .idxA 1 (.s 23) (.s 24), none, [0, 1], false⟩,
     ⟨(some 26), .load false 1 (.s 25), none, [2], false⟩,
     ⟨(some 27), .mv (.s 1), none, [], false⟩,
     ⟨(some 28), .mv (.s 5), none, [], false⟩,
     ⟨(some 29), .idxA 1 (.s 27) (.s 28), none, [4, 5], false⟩,
     ⟨(some 30), .load false 1 (.s 29), none, [6], false⟩,
     ⟨(some 31), .bin .neq .num (.s 26) (.s 30), none, [3, 7], false⟩])
   (.cond (.s 31)
    (.seq (.seq (.draw [0, 1, 5] [⟨(some 32), .mv (.s 0), none, [], false⟩,
      ⟨(some 33), .mv (.s 5), none, [], false⟩,
      ⟨(some 34), .idxA 1 (.s 32) (.s 33), none, [0, 1], false⟩,
      ⟨(some 35), .load false 1 (.s 34), none, [2], false⟩,
      ⟨(some 36), .mv (.s 1), none, [], false⟩,
      ⟨(some 37), .mv (.s 5), none, [], false⟩,
      ⟨(some 38), .idxA 1 (.s 36) (.s 37), none, [4, 5], false⟩,
      ⟨(some 39), .load false 1 (.s 38), none, [6], false⟩,
      ⟨(some 40), .bin .lss .num (.s 35) (.s 39), none, [3, 7], false⟩])
    (.cond (.s 40)
     (.seq (.reg [] [⟨(some 4), .mv (.c (.int .i64 (-1))), none, [], true⟩])
     .ret)
     .skip))
    (.seq (.reg [] [⟨(some 4), .mv (.c (.int .i64 1)), none, [], true⟩])
    .ret))
    .skip)))
  (.reg [0, 1, 5] [⟨(some 21), .mv (.s 5), none, [], false⟩,
    ⟨(some 22), .bin .sub .num (.s 21) (.c (.int .i64 1)), none, [], false⟩,
    ⟨(some 5), .mv (.s 22), none, [], true⟩])))
def i159 : IFn := { nparams := 2, ntmps := 41, results := [.tmp 4], body :=
  (.seq (.reg [0, 1] [⟨(some 4), .mv (.c (.int .i64 0)), none, [], true⟩])
   (.seq (.seq (.reg [0, 1] [⟨(some 6), .mv (.s 0), none, [], false⟩,
     ⟨(some 7), .len false (.s 6), none, [], false⟩,
     ⟨(some 8), .mv (.s 1), none, [], false⟩,
     ⟨(some 9), .len false (.s 8), none, [], false⟩,
     ⟨(some 10), .bin .neq .num (.s 7) (.s 9), none, [], false⟩])
   (.cond (.s 10)
    (.seq (.seq (.reg [0, 1] [⟨(some 11), .mv (.s 0), none, [], false⟩,
      ⟨(some 12), .len false (.s 11), none, [], false⟩,
      ⟨(some 13), .mv (.s 1), none, [], false⟩,
      ⟨(some 14), .len false (.s 13), none, [], false⟩,
      ⟨(some 15), .bin .lss .num (.s 12) (.s 14), none, [], false⟩])
    (.cond (.s 15)
     (.seq (.reg [] [⟨(some 4), .mv (.c (.int .i64 (-1))), none, [], true⟩])
     .ret)
     .skip))
    (.seq (.reg [] [⟨(some 4), .mv (.c (.int .i64 1)), none, [], true⟩])
    .ret))
    .skip))
   (.seq (.seq (.reg [0, 1] [⟨(some 16), .mv (.s 0), none, [], false⟩,
     ⟨(some 17), .len false (.s 16), none, [], false⟩,
     ⟨(some 18), .bin .sub .num (.s 17) (.c (.int .i64 1)), none, [], false⟩,
     ⟨(some 5), .mv (.s 18), none, [], true⟩])
   (.block 0
    (.loop [0, 1, 5] i159b0)))
   (.seq (.reg [] [⟨(some 4), .mv (.c (.int .i64 0)), none, [], true⟩])
   .ret)))) }
theorem tr159 : trF Tryz.prog h159 Tryz.f159 = some i159 := by kernel_rfl

-- ashlar/limbs.minus
def h160 : List (List Nat) := [[0, 1], [0, 1], [0, 1, 5], [0, 1, 5, 6], [0, 1, 5, 6, 13, 14], [0, 1, 5, 6, 13, 14], [0, 1, 5, 6, 13, 14], [0, 1, 5, 6, 7, 13, 14], [0, 1, 5, 7, 8, 13, 14], [0, 1, 5, 7, 8, 13, 14], [0, 1, 5, 7, 8, 13, 14], [0, 1, 5, 8, 13, 14], [0, 1, 5, 6, 13, 14], [5]]
def i160b0 : ICode :=
  (.seq (.reg [0, 1, 5, 6, 13, 14] [⟨(some 15), .bin .lss .num (.s 14) (.s 13), none, [], false⟩])
  (.seq (.cond (.s 15)
   .skip
   (.exit 0))
  (.seq (.block 1
   (.seq (.reg [0, 1, 5, 6, 13, 14] [⟨(some 16), .mv (.s 14), none, [], false⟩,
     ⟨(some 7), .mv (.s 16), none, [], true⟩])
   (.seq (.reg [0, 1, 5, 6, 7, 13, 14] [⟨(some 17), .mv (.s 0), none, [], false⟩,
     ⟨(some 18), .mv (.s 7), none, [], false⟩,
     ⟨(some 19), .idxA 1 (.s 17) (.s 18), none, [], false⟩,
     ⟨(some 20), .load false 1 (.s 19), none, [], false⟩,
     ⟨(some 21), .conv .u64 (.s 20), none, [], false⟩,
     ⟨(some 22), .mv (.s 6), none, [], false⟩,
     ⟨(some 23), .bin .sub .num (.s 21) (.s 22), none, [], false⟩,
     ⟨(some 8), .mv (.s 23), none, [], true⟩])
   (.seq (.seq (.reg [0, 1, 5, 7, 8, 13, 14] [⟨(some 24), .mv (.s 7), none, [], false⟩,
     ⟨(some 25), .mv (.s 1), none, [], false⟩,
     ⟨(some 26), .len false (.s 25), none, [], false⟩,
     ⟨(some 27), .bin .lss .num (.s 24) (.s 26), none, [], false⟩])
   (.cond (.s 27)
    (.reg [0, 1, 5, 7, 8, 13, 14] [⟨(some 28), .mv (.s 8), none, [], false⟩,
      ⟨(some 29), .mv (.s 1), none, [], false⟩,
      ⟨(some 30), .mv (.s 7), none, [], false⟩,
      ⟨(some 31), .idxA 1 (.s 29) (.s 30), none, [], false⟩,
      ⟨(some 32), .load false 1 (.s 31), none, [], false⟩,
      ⟨(some 33), .conv .u64 (.s 32), none, [], false⟩,
      ⟨(some 34), .bin .sub .num (.s 28) (.s 33), none, [], false⟩,
      ⟨(some 8), .mv (.s 34), none, [], true⟩])
    .skip))
   (.seq (.reg [0, 1, 5, 7, 8, 13, 14] [⟨(some 35), .mv (.s 5), none, [], false⟩,
     ⟨(some 36), .mv (.s 7), none, [], false⟩,
     ⟨(some 37), .mv (.s 8), none, [], false⟩,
     ⟨(some 38), .conv .u32 (.s 37), none, [], false⟩,
     ⟨(some 39), .idxA 1 (.s 35) (.s 36), none, [], false⟩,
     ⟨none, .store 1 (.s 39) (.s 38), none, [], false⟩])
   (.reg [0, 1, 5, 8, 13, 14] [⟨(some 40), .mv (.s 8), none, [], false⟩,
     ⟨(some 41), .bin .shr .num (.s 40) (.c (.int .u64 63)), none, [], false⟩,
     ⟨(some 6), .mv (.s 41), none, [], true⟩]))))))
  (.reg [0, 1, 5, 6, 13, 14] [⟨(some 42), .bin .add .num (.s 14) (.c (.int .i64 1)), none, [], false⟩,
    ⟨(some 14), .mv (.s 42), none, [], false⟩]))))
def i160 : IFn := { nparams := 2, ntmps := 45, results := [.tmp 4], body :=
  (.seq (.reg [0, 1] [⟨(some 4), .mv (.c (.sl .nil [])), none, [], true⟩])
   (.seq (.reg [0, 1] [⟨(some 9), .mv (.s 0), none, [], false⟩,
     ⟨(some 10), .len false (.s 9), none, [], false⟩,
     ⟨(some 11), .mksl 1 4 (.int .u32 0) (.s 10) (.s 10), none, [], false⟩,
     ⟨(some 5), .mv (.s 11), none, [], true⟩])
   (.seq (.reg [0, 1, 5] [⟨(some 6), .mv (.c (.int .u64 0)), none, [], true⟩])
   (.seq (.seq (.reg [0, 1, 5, 6] [⟨(some 12), .mv (.s 0), none, [], false⟩,
     ⟨(some 13), .len false (.s 12), none, [], false⟩,
     ⟨(some 14), .mv (.c (.int .i64 0)), none, [], false⟩])
   (.block 0
    (.loop [0, 1, 5, 6, 13, 14] i160b0)))
   (.seq (.reg [5] [⟨(some 43), .mv (.s 5), none, [], false⟩,
     ⟨(some 44), .call (.c (.fn (.func 156) [] [])) [(.s 43)], none, [], false⟩,
     ⟨(some 4), .mv (.s 44), none, [], true⟩])
   .ret))))) }
theorem tr160 : trF Tryz.prog h160 Tryz.f160 = some i160 := by kernel_rfl

-- ashlar/upoly.Bits
def h161 : List (List Nat) := [[0], [0], [0, 3], [3, 6, 7, 8], [3, 6, 7, 8], [3, 6, 7, 8], [3, 5, 6, 7, 8], [3, 6, 7, 8], [3]]
def i161b0 : ICode :=
  (.seq (.reg [3, 6, 7, 8] [⟨(some 9), .bin .lss .num (.s 8) (.s 7), none, [], false⟩])
  (.seq (.cond (.s 9)
   .skip
   (.exit 0))
  (.seq (.block 1
   (.seq (.reg [3, 6, 7, 8] [⟨(some 10), .idxA 2 (.s 6) (.s 8), none, [], false⟩,
     ⟨(some 11), .load true 2 (.s 10), none, [], false⟩,
     ⟨(some 5), .alloc 2 (.agg [(.bool false), (.sl .nil [])]), none, [], false⟩,
     ⟨none, .store 2 (.s 5) (.s 11), none, [], false⟩])
   (.reg [3, 5, 6, 7, 8] [⟨(some 12), .mv (.s 3), none, [], false⟩,
     ⟨(some 13), .load true 2 (.s 5), none, [], false⟩,
     ⟨(some 14), .call (.c (.fn (.func 76) [] [])) [(.s 13)], none, [], false⟩,
     ⟨(some 15), .mx [(.s 12), (.s 14)], none, [], false⟩,
     ⟨(some 3), .mv (.s 15), none, [], true⟩])))
  (.reg [3, 6, 7, 8] [⟨(some 16), .bin .add .num (.s 8) (.c (.int .i64 1)), none, [], false⟩,
    ⟨(some 8), .mv (.s 16), none, [], false⟩]))))
def i161 : IFn := { nparams := 1, ntmps := 18, results := [.tmp 2], body :=
  (.seq (.reg [0] [⟨(some 2), .mv (.c (.int .i64 0)), none, [], true⟩])
   (.seq (.reg [0] [⟨(some 3), .mv (.c (.int .i64 0)), none, [], true⟩])
   (.seq (.seq (.reg [0, 3] [⟨(some 6), .mv (.s 0), none, [], false⟩,
     ⟨(some 7), .len false (.s 6), none, [], false⟩,
     ⟨(some 8), .mv (.c (.int .i64 0)), none, [], false⟩])
   (.block 0
    (.loop [3, 6, 7, 8] i161b0)))
   (.seq (.reg [3] [⟨(some 17), .mv (.s 3), none, [], false⟩,
     ⟨(some 2), .mv (.s 17), none, [], true⟩])
   .ret)))) }
theorem tr161 : trF Tryz.prog h161 Tryz.f161 = some i161 := by kernel_rfl

-- ashlar/limbs.divide
def h162 : List (List Nat) := [[0, 1], [0, 1], [0], [0, 1], [0, 1], [6, 7], [0, 1], [0, 1, 8], [0, 1, 8, 9], [8, 9, 10, 11], [8, 9, 10, 11, 12], [8, 9, 10, 11, 12, 13], [8, 9, 10, 11, 12, 13], [8, 9, 10, 11, 12, 13], [8, 9, 10, 11, 12, 13, 14], [8, 9, 10, 11, 12, 13, 14, 15], [8, 9, 10, 11, 12, 13, 14, 15], [8, 9, 10, 11, 12, 13, 14, 15], [8, 9, 10, 11, 12, 13, 14], [8, 9, 10, 11, 12, 13], [8, 10, 12]]
def i162b0 : ICode :=
  (.seq (.seq (.reg [8, 9, 10, 11, 12, 13] [⟨(some 62), .mv (.s 13), none, [], false⟩,
    ⟨(some 63), .bin .geq .num (.s 62) (.c (.int .i64 0)), none, [], false⟩])
  (.cond (.s 63)
   .skip
   (.exit 0)))
  (.seq (.block 1
   (.seq (.draw [8, 9, 10, 11, 12, 13] [⟨(some 66), .mv (.s 10), none, [], false⟩,
     ⟨(some 67), .mv (.s 13), none, [], false⟩,
     ⟨(some 68), .mv (.s 9), none, [], false⟩,
     ⟨(some 69), .bin .add .num (.s 67) (.s 68), none, [1, 2], false⟩,
     ⟨(some 70), .idxA 1 (.s 66) (.s 69), none, [0, 3], false⟩,
     ⟨(some 71), .load false 1 (.s 70), none, [4], false⟩,
     ⟨(some 72), .mv (.s 10), none, [], false⟩,
     ⟨(some 73), .mv (.s 13), none, [], false⟩,
     ⟨(some 74), .mv (.s 9), none, [], false⟩,
     ⟨(some 75), .bin .add .num (.s 73) (.s 74), none, [7, 8], false⟩,
     ⟨(some 76), .bin .sub .num (.s 75) (.c (.int .i64 1)), none, [9], false⟩,
     ⟨(some 77), .idxA 1 (.s 72) (.s 76), none, [6, 10], false⟩,
     ⟨(some 78), .load false 1 (.s 77), none, [11], false⟩,
     ⟨(some 79), .mv (.s 10), none, [], false⟩,
     ⟨(some 80), .mv (.s 13), none, [], false⟩,
     ⟨(some 81), .mv (.s 9), none, [], false⟩,
     ⟨(some 82), .bin .add .num (.s 80) (.s 81), none, [14, 15], false⟩,
     ⟨(some 83), .bin .sub .num (.s 82) (.c (.int .i64 2)), none, [16], false⟩,
     ⟨(some 84), .idxA 1 (.s 79) (.s 83), none, [13, 17], false⟩,
     ⟨(some 85), .load false 1 (.s 84), none, [18], false⟩,
     ⟨(some 86), .mv (.s 11), none, [], false⟩,
     ⟨(some 87), .mv (.s 9), none, [], false⟩,
     ⟨(some 88), .bin .sub .num (.s 87) (.c (.int .i64 1)), none, [21], false⟩,
     ⟨(some 89), .idxA 1 (.s 86) (.s 88), none, [20, 22], false⟩,
     ⟨(some 90), .load false 1 (.s 89), none, [23], false⟩,
     ⟨(some 91), .mv (.s 11), none, [], false⟩,
     ⟨(some 92), .mv (.s 9), none, [], false⟩,
     ⟨(some 93), .bin .sub .num (.s 92) (.c (.int .i64 2)), none, [26], false⟩,
     ⟨(some 94), .idxA 1 (.s 91) (.s 93), none, [25, 27], false⟩,
     ⟨(some 95), .load false 1 (.s 94), none, [28], false⟩,
     ⟨(some 96), .call (.c (.fn (.func 186) [] [])) [(.s 71), (.s 78), (.s 85), (.s 90), (.s 95)], none, [5, 12, 19, 24, 29], false⟩,
     ⟨(some 14), .mv (.s 96), none, [30, 0, 1, 2, 3, 4, 5, 6, 7, 8, 9, 10, 11, 12, 13, 14, 15, 16, 17, 18, 19, 20, 21, 22, 23, 24, 25, 26, 27, 28, 29], true⟩])
   (.seq (.reg [8, 9, 10, 11, 12, 13, 14] [⟨(some 97), .mv (.s 10), none, [], false⟩,
     ⟨(some 98), .mv (.s 13), none, [], false⟩,
     ⟨(some 99), .mv (.s 13), none, [], false⟩,
     ⟨(some 100), .mv (.s 9), none, [], false⟩,
     ⟨(some 101), .bin .add .num (.s 99) (.s 100), none, [], false⟩,
     ⟨(some 102), .bin .add .num (.s 101) (.c (.int .i64 1)), none, [], false⟩,
     ⟨(some 103), .slice 1 (.s 97) (some (.s 98)) (some (.s 102)) none, none, [], false⟩,
     ⟨(some 15), .mv (.s 103), none, [], true⟩])
   (.seq (.seq (.reg [8, 9, 10, 11, 12, 13, 14, 15] [⟨(some 104), .mv (.s 15), none, [], false⟩,
     ⟨(some 105), .mv (.s 11), none, [], false⟩,
     ⟨(some 106), .mv (.s 14), none, [], false⟩,
     ⟨(some 107), .call (.c (.fn (.func 187) [] [])) [(.s 104), (.s 105), (.s 106)], none, [], false⟩])
   (.cond (.s 107)
    (.seq (.reg [8, 9, 10, 11, 12, 13, 14, 15] [⟨(some 108), .mv (.s 14), none, [], false⟩,
      ⟨(some 109), .bin .sub .num (.s 108) (.c (.int .u64 1)), none, [], false⟩,
      ⟨(some 14), .mv (.s 109), none, [], true⟩])
    (.reg [8, 9, 10, 11, 12, 13, 14, 15] [⟨(some 110), .mv (.s 15), none, [], false⟩,
      ⟨(some 111), .mv (.s 11), none, [], false⟩,
      ⟨(some 112), .call (.c (.fn (.func 188) [] [])) [(.s 110), (.s 111)], none, [], false⟩]))
    .skip))
   (.reg [8, 9, 10, 11, 12, 13, 14] [⟨(some 113), .mv (.s 12), none, [], false⟩,
     ⟨(some 114), .mv (.s 13), none, [], false⟩,
     ⟨(some 115), .mv (.s 14), none, [], false⟩,
     ⟨(some 116), .conv .u32 (.s 115), none, [], false⟩,
     ⟨(some 117), .idxA 1 (.s 113) (.s 114), none, [], false⟩,
     ⟨none, .store 1 (.s 117) (.s 116), none, [], false⟩])))))
  (.reg [8, 9, 10, 11, 12, 13] [⟨(some 64), .mv (.s 13), none, [], false⟩,
    ⟨(some 65), .bin .sub .num (.s 64) (.c (.int .i64 1)), none, [], false⟩,
    ⟨(some 13), .mv (.s 65), none, [], true⟩])))
def i162 : IFn := { nparams := 2, ntmps := 124, results := [.tmp 4, .tmp 5], body :=
  (.seq (.reg [0, 1] [⟨(some 4), .mv (.c (.sl .nil [])), none, [], true⟩,
     ⟨(some 5), .mv (.c (.sl .nil [])), none, [], true⟩])
   (.seq (.seq (.reg [0, 1] [⟨(some 16), .mv (.s 0), none, [], false⟩,
     ⟨(some 17), .mv (.s 1), none, [], false⟩,
     ⟨(some 18), .call (.c (.fn (.func 159) [] [])) [(.s 16), (.s 17)], none, [], false⟩,
     ⟨(some 19), .bin .lss .num (.s 18) (.c (.int .i64 0)), none, [], false⟩])
   (.cond (.s 19)
    (.seq (.reg [0] [⟨(some 20), .mv (.s 0), none, [], false⟩,
      ⟨(some 4), .mv (.c (.sl .nil [])), none, [], true⟩,
      ⟨(some 5), .mv (.s 20), none, [], true⟩])
    .ret)
    .skip))
   (.seq (.seq (.reg [0, 1] [⟨(some 21), .mv (.s 1), none, [], false⟩,
     ⟨(some 22), .len false (.s 21), none, [], false⟩,
     ⟨(some 23), .bin .eql .num (.s 22) (.c (.int .i64 1)), none, [], false⟩])
   (.cond (.s 23)
    (.seq (.reg [0, 1] [⟨(some 25), .mv (.s 0), none, [], false⟩,
      ⟨(some 26), .mv (.s 1), none, [], false⟩,
      ⟨(some 27), .idxA 1 (.s 26) (.c (.int .i64 0)), none, [], false⟩,
      ⟨(some 28), .load false 1 (.s 27), none, [], false⟩,
      ⟨(some 29), .call (.c (.fn (.func 183) [] [])) [(.s 25), (.s 28)], none, [], false⟩,
      ⟨(some 24), .mv (.s 29), none, [], false⟩,
      ⟨(some 30), .extr (.s 24) 0, none, [], false⟩,
      ⟨(some 31), .extr (.s 24) 1, none, [], false⟩,
      ⟨(some 6), .mv (.s 30), none, [], true⟩,
      ⟨(some 7), .mv (.s 31), none, [], true⟩])
    (.seq (.reg [6, 7] [⟨(some 32), .mv (.s 6), none, [], false⟩,
      ⟨(some 33), .mv (.s 7), none, [], false⟩,
      ⟨(some 34), .bsl 1 (.int .u32 0) 1 [(0, (.s 33))], none, [], false⟩,
      ⟨(some 35), .call (.c (.fn (.func 156) [] [])) [(.s 34)], none, [], false⟩,
      ⟨(some 4), .mv (.s 32), none, [], true⟩,
      ⟨(some 5), .mv (.s 35), none, [], true⟩])
    .ret))
    .skip))
   (.seq (.reg [0, 1] [⟨(some 36), .mv (.s 1), none, [], false⟩,
     ⟨(some 37), .mv (.s 1), none, [], false⟩,
     ⟨(some 38), .len false (.s 37), none, [], false⟩,
     ⟨(some 39), .bin .sub .num (.s 38) (.c (.int .i64 1)), none, [], false⟩,
     ⟨(some 40), .idxA 1 (.s 36) (.s 39), none, [], false⟩,
     ⟨(some 41), .load false 1 (.s 40), none, [], false⟩,
     ⟨(some 42), .call (.c (.fn (.func 184) [] [])) [(.s 41)], none, [], false⟩,
     ⟨(some 8), .mv (.s 42), none, [], true⟩])
   (.seq (.reg [0, 1, 8] [⟨(some 43), .mv (.s 1), none, [], false⟩,
     ⟨(some 44), .len false (.s 43), none, [], false⟩,
     ⟨(some 9), .mv (.s 44), none, [], true⟩])
   (.seq (.reg [0, 1, 8, 9] [⟨(some 45), .mv (.s 0), none, [], false⟩,
     ⟨(some 46), .mv (.s 8), none, [], false⟩,
     ⟨(some 47), .call (.c (.fn (.func 185) [] [])) [(.s 45), (.s 46)], none, [], false⟩,
     ⟨(some 48), .mv (.s 1), none, [], false⟩,
     ⟨(some 49), .mv (.s 8), none, [], false⟩,
     ⟨(some 50), .call (.c (.fn (.func 185) [] [])) [(.s 48), (.s 49)], none, [], false⟩,
     ⟨(some 51), .call (.c (.fn (.func 156) [] [])) [(.s 50)], none, [], false⟩,
     ⟨(some 10), .mv (.s 47), none, [], true⟩,
     ⟨(some 11), .mv (.s 51), none, [], true⟩])
   (.seq (.reg [8, 9, 10, 11] [⟨(some 52), .mv (.s 10), none, [], false⟩,
     ⟨(some 53), .len false (.s 52), none, [], false⟩,
     ⟨(some 54), .mv (.s 9), none, [], false⟩,
     ⟨(some 55), .bin .sub .num (.s 53) (.s 54), none, [], false⟩,
     ⟨(some 56), .mksl 1 4 (.int .u32 0) (.s 55) (.s 55), none, [], false⟩,
     ⟨(some 12), .mv (.s 56), none, [], true⟩])
   (.seq (.seq (.reg [8, 9, 10, 11, 12] [⟨(some 57), .mv (.s 10), none, [], false⟩,
     ⟨(some 58), .len false (.s 57), none, [], false⟩,
     ⟨(some 59), .mv (.s 9), none, [], false⟩,
     ⟨(some 60), .bin .sub .num (.s 58) (.s 59), none, [], false⟩,
     ⟨(some 61), .bin .sub .num (.s 60) (.c (.int .i64 1)), none, [], false⟩,
     ⟨(some 13), .mv (.s 61), none, [], true⟩])
   (.block 0
    (.loop [8, 9, 10, 11, 12, 13] i162b0)))
   (.seq (.reg [8, 10, 12] [⟨(some 118), .mv (.s 12), none, [], false⟩,
     ⟨(some 119), .call (.c (.fn (.func 156) [] [])) [(.s 118)], none, [], false⟩,
     ⟨(some 120), .mv (.s 10), none, [], false⟩,
     ⟨(some 121), .call (.c (.fn (.func 156) [] [])) [(.s 120)], none, [], false⟩,
     ⟨(some 122), .mv (.s 8), none, [], false⟩,
     ⟨(some 123), .call (.c (.fn (.func 189) [] [])) [(.s 121), (.s 122)], none, [], false⟩,
     ⟨(some 4), .mv (.s 119), none, [], true⟩,
     ⟨(some 5), .mv (.s 123), none, [], true⟩])
   .ret))))))))) }
theorem tr162 : trF Tryz.prog h162 Tryz.f162 = some i162 := by kernel_rfl

-- ashlar/limbs.Neg
def h163 : List (List Nat) := [[0], [1, 2]]
def i163 : IFn := { nparams := 1, ntmps := 9, results := [.cell 2 true 2], body :=
  (.seq (.reg [0] [⟨(some 1), .box 2 (.s 0), none, [], false⟩,
     ⟨(some 2), .alloc 2 (.agg [(.bool false), (.sl .nil [])]), none, [], false⟩])
   (.seq (.draw [1, 2] [⟨(some 3), .load true 2 (.s 1), none, [], false⟩,
     ⟨(some 4), .call (.c (.fn (.func 157) [] [])) [(.s 3)], none, [0], false⟩,
     ⟨(some 5), .un .not (.s 4), none, [1], false⟩,
     ⟨(some 6), .load true 2 (.s 1), none, [], false⟩,
     ⟨(some 7), .call (.c (.fn (.func 115) [] [])) [(.s 6)], none, [3, 1], false⟩,
     ⟨(some 8), .call (.c (.fn (.func 148) [] [])) [(.s 5), (.s 7)], none, [2, 4], false⟩,
     ⟨none, .store 2 (.s 2) (.s 8), none, [5, 0, 1, 2, 3, 4], false⟩])
   .ret)) }
theorem tr163 : trF Tryz.prog h163 Tryz.f163 = some i163 := by kernel_rfl

-- ashlar/upoly.over
def h164 : List (List Nat) := [[0, 1], [0, 3]]
def i164 : IFn := { nparams := 2, ntmps := 8, results := [.tmp 4], body :=
  (.seq (.reg [0, 1] [⟨(some 3), .box 2 (.s 1), none, [], false⟩,
     ⟨(some 4), .mv (.c (.sl .nil [])), none, [], true⟩])
   (.seq (.reg [0, 3] [⟨(some 5), .mv (.s 0), none, [], false⟩,
     ⟨(some 6), .mkfn (.func 190) [] [(.s 3)], none, [], false⟩,
     ⟨(some 7), .call (.c (.fn (.func 146) [] [])) [(.s 5), (.s 6)], none, [], false⟩,
     ⟨(some 4), .mv (.s 7), none, [], true⟩])
   .ret)) }
theorem tr164 : trF Tryz.prog h164 Tryz.f164 = some i164 := by kernel_rfl

-- ashlar/zprime.Below
def h165 : List (List Nat) := [[0], [0], [0], [0], [0], [0]]
def i165b0 : ICode :=
  (.seq (.seq (.reg [0] [⟨(some 5), .mv (.s 0), none, [], false⟩,
    ⟨(some 6), .call (.c (.fn (.func 191) [] [])) [(.s 5)], none, [], false⟩,
    ⟨(some 7), .un .not (.s 6), none, [], false⟩])
  (.cond (.s 7)
   .skip
   (.exit 0)))
  (.seq (.block 1
   .skip)
  (.reg [0] [⟨(some 8), .mv (.s 0), none, [], false⟩,
    ⟨(some 9), .bin .sub .num (.s 8) (.c (.int .i64 1)), none, [], false⟩,
    ⟨(some 0), .mv (.s 9), none, [], true⟩])))
def i165 : IFn := { nparams := 1, ntmps := 11, results := [.tmp 2], body :=
  (.seq (.reg [0] [⟨(some 2), .mv (.c (.int .i64 0)), none, [], true⟩])
   (.seq (.seq (.reg [0] [⟨(some 3), .mv (.s 0), none, [], false⟩,
     ⟨(some 4), .bin .sub .num (.s 3) (.c (.int .i64 1)), none, [], false⟩,
     ⟨(some 0), .mv (.s 4), none, [], true⟩])
   (.block 0
    (.loop [0] i165b0)))
   (.seq (.reg [0] [⟨(some 10), .mv (.s 0), none, [], false⟩,
     ⟨(some 2), .mv (.s 10), none, [], true⟩])
   .ret))) }
theorem tr165 : trF Tryz.prog h165 Tryz.f165 = some i165 := by kernel_rfl

-- ashlar/zprime.Of
def h166 : List (List Nat) := [[0, 1], [0, 1], [0, 1, 5], [1, 5, 11, 12, 13], [1, 5, 11, 12, 13], [1, 5, 11, 12, 13], [1, 5, 6, 7, 11, 12, 13], [1, 5, 11, 12, 13], [5]]
def i166b0 : ICode :=
  (.seq (.reg [1, 5, 11, 12, 13] [⟨(some 14), .bin .lss .num (.s 13) (.s 12), none, [], false⟩])
  (.seq (.cond (.s 14)
   .skip
   (.exit 0))
  (.seq (.block 1
   (.seq (.reg [1, 5, 11, 12, 13] [⟨(some 15), .mv (.s 13), none, [], false⟩,
     ⟨(some 16), .idxA 2 (.s 11) (.s 13), none, [], false⟩,
     ⟨(some 17), .load true 2 (.s 16), none, [], false⟩,
     ⟨(some 7), .alloc 2 (.agg [(.bool false), (.sl .nil [])]), none, [], false⟩,
     ⟨(some 6), .mv (.s 15), none, [], true⟩,
     ⟨none, .store 2 (.s 7) (.s 17), none, [], false⟩])
   (.reg [1, 5, 6, 7, 11, 12, 13] [⟨(some 19), .mv (.s 5), none, [], false⟩,
     ⟨(some 20), .mv (.s 6), none, [], false⟩,
     ⟨(some 21), .load true 2 (.s 7), none, [], false⟩,
     ⟨(some 22), .mv (.s 1), none, [], false⟩,
     ⟨(some 23), .call (.c (.fn (.func 168) [] [])) [(.s 21), (.s 22)], none, [], false⟩,
     ⟨(some 18), .mv (.s 23), none, [], false⟩,
     ⟨(some 24), .extr (.s 18) 0, none, [], false⟩,
     ⟨(some 25), .extr (.s 18) 1, none, [], false⟩,
     ⟨(some 26), .idxA 1 (.s 19) (.s 20), none, [], false⟩,
     ⟨none, .store 1 (.s 26) (.s 24), none, [], false⟩])))
  (.reg [1, 5, 11, 12, 13] [⟨(some 27), .bin .add .num (.s 13) (.c (.int .i64 1)), none, [], false⟩,
    ⟨(some 13), .mv (.s 27), none, [], false⟩]))))
def i166 : IFn := { nparams := 2, ntmps := 30, results := [.tmp 4], body :=
  (.seq (.reg [0, 1] [⟨(some 4), .mv (.c (.sl .nil [])), none, [], true⟩])
   (.seq (.reg [0, 1] [⟨(some 8), .mv (.s 0), none, [], false⟩,
     ⟨(some 9), .len false (.s 8), none, [], false⟩,
     ⟨(some 10), .mksl 1 8 (.int .i64 0) (.s 9) (.s 9), none, [], false⟩,
     ⟨(some 5), .mv (.s 10), none, [], true⟩])
   (.seq (.seq (.reg [0, 1, 5] [⟨(some 11), .mv (.s 0), none, [], false⟩,
     ⟨(some 12), .len false (.s 11), none, [], false⟩,
     ⟨(some 13), .mv (.c (.int .i64 0)), none, [], false⟩])
   (.block 0
    (.loop [1, 5, 11, 12, 13] i166b0)))
   (.seq (.reg [5] [⟨(some 28), .mv (.s 5), none, [], false⟩,
     ⟨(some 29), .call (.c (.fn (.func 192) [] [])) [(.s 28)], none, [], false⟩,
     ⟨(some 4), .mv (.s 29), none, [], true⟩])
   .ret)))) }
theorem tr166 : trF Tryz.prog h166 Tryz.f166 = some i166 := by kernel_rfl

-- ashlar/zprime.Gcd
def h167 : List (List Nat) := [[0, 1, 2], [0, 1, 2], [0, 1, 2], [0, 1, 2], [0, 2], [0, 2], [0, 2, 7], [0, 2, 7, 29, 30], [0, 2, 7, 29, 30], [0, 2, 7, 29, 30], [0, 2, 7, 8, 29, 30], [0, 2, 7, 29, 30], [0]]
def i167b0 : ICode :=
  (.seq (.seq (.reg [0, 1, 2] [⟨(some 9), .mv (.s 1), none, [], false⟩,
    ⟨(some 10), .len false (.s 9), none, [], false⟩,
    ⟨(some 11), .bin .gtr .num (.s 10) (.c (.int .i64 0)), none, [], false⟩])
  (.cond (.s 11)
   .skip
   (.exit 0)))
  (.block 1
   (.reg [0, 1, 2] [⟨(some 12), .mv (.s 1), none, [], false⟩,
     ⟨(some 13), .mv (.s 0), none, [], false⟩,
     ⟨(some 14), .mv (.s 1), none, [], false⟩,
     ⟨(some 15), .mv (.s 2), none, [], false⟩,
     ⟨(some 16), .call (.c (.fn (.func 193) [] [])) [(.s 13), (.s 14), (.s 15)], none, [], false⟩,
     ⟨(some 0), .mv (.s 12), none, [], true⟩,
     ⟨(some 1), .mv (.s 16), none, [], true⟩])))
def i167b1 : ICode :=
  (.seq (.reg [0, 2, 7, 29, 30] [⟨(some 31), .bin .lss .num (.s 30) (.s 29), none, [], false⟩])
  (.seq (.cond (.s 31)
   .skip
   (.exit 2))
  (.seq (.block 3
   (.seq (.reg [0, 2, 7, 29, 30] [⟨(some 32), .mv (.s 30), none, [], false⟩,
     ⟨(some 8), .mv (.s 32), none, [], true⟩])
   (.reg [0, 2, 7, 8, 29, 30] [⟨(some 33), .mv (.s 0), none, [], false⟩,
     ⟨(some 34), .mv (.s 8), none, [], false⟩,
     ⟨(some 35), .mv (.s 0), none, [], false⟩,
     ⟨(some 36), .mv (.s 8), none, [], false⟩,
     ⟨(some 37), .idxA 1 (.s 35) (.s 36), none, [], false⟩,
     ⟨(some 38), .load false 1 (.s 37), none, [], false⟩,
     ⟨(some 39), .mv (.s 7), none, [], false⟩,
     ⟨(some 40), .mv (.s 2), none, [], false⟩,
     ⟨(some 41), .call (.c (.fn (.func 169) [] [])) [(.s 38), (.s 39), (.s 40)], none, [], false⟩,
     ⟨(some 42), .idxA 1 (.s 33) (.s 34), none, [], false⟩,
     ⟨none, .store 1 (.s 42) (.s 41), none, [], false⟩])))
  (.reg [0, 2, 7, 29, 30] [⟨(some 43), .bin .add .num (.s 30) (.c (.int .i64 1)), none, [], false⟩,
    ⟨(some 30), .mv (.s 43), none, [], false⟩]))))
def i167 : IFn := { nparams := 3, ntmps := 45, results := [.tmp 6], body :=
  (.seq (.reg [0, 1, 2] [⟨(some 6), .mv (.c (.sl .nil [])), none, [], true⟩])
   (.seq (.block 0
    (.loop [0, 1, 2] i167b0))
   (.seq (.seq (.reg [0, 2] [⟨(some 17), .mv (.s 0), none, [], false⟩,
     ⟨(some 18), .len false (.s 17), none, [], false⟩,
     ⟨(some 19), .bin .gtr .num (.s 18) (.c (.int .i64 0)), none, [], false⟩])
   (.cond (.s 19)
    (.seq (.reg [0, 2] [⟨(some 20), .mv (.s 0), none, [], false⟩,
      ⟨(some 21), .mv (.s 0), none, [], false⟩,
      ⟨(some 22), .len false (.s 21), none, [], false⟩,
      ⟨(some 23), .bin .sub .num (.s 22) (.c (.int .i64 1)), none, [], false⟩,
      ⟨(some 24), .idxA 1 (.s 20) (.s 23), none, [], false⟩,
      ⟨(some 25), .load false 1 (.s 24), none, [], false⟩,
      ⟨(some 26), .mv (.s 2), none, [], false⟩,
      ⟨(some 27), .call (.c (.fn (.func 194) [] [])) [(.s 25), (.s 26)], none, [], false⟩,
      ⟨(some 7), .mv (.s 27), none, [], true⟩])
    (.seq (.reg [0, 2, 7] [⟨(some 28), .mv (.s 0), none, [], false⟩,
      ⟨(some 29), .len false (.s 28), none, [], false⟩,
      ⟨(some 30), .mv (.c (.int .i64 0)), none, [], false⟩])
    (.block 2
     (.loop [0, 2, 7, 29, 30] i167b1))))
    .skip))
   (.seq (.reg [0] [⟨(some 44), .mv (.s 0), none, [], false⟩,
     ⟨(some 6), .mv (.s 44), none, [], true⟩])
   .ret)))) }
theorem tr167 : trF Tryz.prog h167 Tryz.f167 = some i167 := by kernel_rfl

-- ashlar/limbs.Mod
def h168 : List (List Nat) := [[0, 1], [1, 2], [], [1, 2], [1, 2, 7], [1, 7], [7]]
def i168 : IFn := { nparams := 2, ntmps := 34, results := [.tmp 4, .tmp 5], body :=
  (.seq (.reg [0, 1] [⟨(some 2), .box 2 (.s 0), none, [], false⟩,
     ⟨(some 4), .mv (.c (.int .i64 0)), none, [], true⟩,
     ⟨(some 5), .mv (.c (.int .i64 0)), none, [], true⟩])
   (.seq (.seq (.reg [1, 2] [⟨(some 8), .mv (.s 1), none, [], false⟩,
     ⟨(some 9), .bin .lss .num (.s 8) (.c (.int .i64 1)), none, [], false⟩,
     ⟨(some 10), .mv (.s 9), none, [], false⟩,
     ⟨(some 11), .mv (.s 1), (some (10, false)), [], false⟩,
     ⟨(some 12), .bin .gtr .num (.s 11) (.c (.int .i64 2147483647)), (some (10, false)), [], false⟩,
     ⟨(some 13), .pick (.s 10) (.c (.bool true)) (.s 12), none, [], false⟩])
   (.cond (.s 13)
    (.seq (.reg [] [⟨(some 4), .mv (.c (.int .i64 0)), none, [], true⟩,
      ⟨(some 5), .mv (.c (.int .i64 1)), none, [], true⟩])
    .ret)
    .skip))
   (.seq (.reg [1, 2] [⟨(some 15), .load true 2 (.s 2), none, [], false⟩,
     ⟨(some 16), .call (.c (.fn (.func 115) [] [])) [(.s 15)], none, [], false⟩,
     ⟨(some 17), .mv (.s 1), none, [], false⟩,
     ⟨(some 18), .conv .u32 (.s 17), none, [], false⟩,
     ⟨(some 19), .call (.c (.fn (.func 183) [] [])) [(.s 16), (.s 18)], none, [], false⟩,
     ⟨(some 14), .mv (.s 19), none, [], false⟩,
     ⟨(some 20), .extr (.s 14) 0, none, [], false⟩,
     ⟨(some 21), .extr (.s 14) 1, none, [], false⟩,
     ⟨(some 6), .mv (.s 20), none, [], true⟩,
     ⟨(some 7), .mv (.s 21), none, [], true⟩])
   (.seq (.seq (.reg [1, 2, 7] [⟨(some 22), .load true 2 (.s 2), none, [], false⟩,
     ⟨(some 23), .call (.c (.fn (.func 157) [] [])) [(.s 22)], none, [], false⟩,
     ⟨(some 24), .mv (.s 23), none, [], false⟩,
     ⟨(some 25), .mv (.s 7), (some (24, true)), [], false⟩,
     ⟨(some 26), .bin .gtr .num (.s 25) (.c (.int .u32 0)), (some (24, true)), [], false⟩,
     ⟨(some 27), .pick (.s 24) (.s 26) (.c (.bool false)), none, [], false⟩])
   (.cond (.s 27)
    (.seq (.reg [1, 7] [⟨(some 28), .mv (.s 1), none, [], false⟩,
      ⟨(some 29), .mv (.s 7), none, [], false⟩,
      ⟨(some 30), .conv .i64 (.s 29), none, [], false⟩,
      ⟨(some 31), .bin .sub .num (.s 28) (.s 30), none, [], false⟩,
      ⟨(some 4), .mv (.s 31), none, [], true⟩,
      ⟨(some 5), .mv (.c (.int .i64 0)), none, [], true⟩])
    .ret)
    .skip))
   (.seq (.reg [7] [⟨(some 32), .mv (.s 7), none, [], false⟩,
     ⟨(some 33), .conv .i64 (.s 32), none, [], false⟩,
     ⟨(some 4), .mv (.s 33), none, [], true⟩,
     ⟨(some 5), .mv (.c (.int .i64 0)), none, [], true⟩])
   .ret))))) }
theorem tr168 : trF Tryz.prog h168 Tryz.f168 = some i168 := by kernel_rfl

-- ashlar/zprime.Times
def h169 : List (List Nat) := [[0, 1, 2], [0, 1, 2]]
def i169 : IFn := { nparams := 3, ntmps := 12, results := [.tmp 6], body :=
  (.seq (.reg [0, 1, 2] [⟨(some 6), .mv (.c (.int .i64 0)), none, [], true⟩])
   (.seq (.reg [0, 1, 2] [⟨(some 7), .mv (.s 0), none, [], false⟩,
     ⟨(some 8), .mv (.s 1), none, [], false⟩,
     ⟨(some 9), .bin .mul .num (.s 7) (.s 8), none, [], false⟩,
     ⟨(some 10), .mv (.s 2), none, [], false⟩,
     ⟨(some 11), .bin .rem .num (.s 9) (.s 10), none, [], false⟩,
     ⟨(some 6), .mv (.s 11), none, [], true⟩])
   .ret)) }
theorem tr169 : trF Tryz.prog h169 Tryz.f169 = some i169 := by kernel_rfl

-- ashlar/limbs.Quo
def h171 : List (List Nat) := [[0, 1], [2, 3, 4, 5], [2, 3, 4, 5, 7], [4, 5], [2, 3, 4, 5, 7], [2, 3, 4, 5, 7, 8, 9], [2, 3, 4, 5, 7, 8, 9], [2, 3, 4, 5, 8, 9]]
def i171 : IFn := { nparams := 2, ntmps := 46, results := [.cell 4 true 2, .cell 5 true 2, .tmp 6], body :=
  (.seq (.reg [0, 1] [⟨(some 2), .box 2 (.s 0), none, [], false⟩,
     ⟨(some 3), .box 2 (.s 1), none, [], false⟩,
     ⟨(some 4), .alloc 2 (.agg [(.bool false), (.sl .nil [])]), none, [], false⟩,
     ⟨(some 5), .alloc 2 (.agg [(.bool false), (.sl .nil [])]), none, [], false⟩,
     ⟨(some 6), .mv (.c (.int .i64 0)), none, [], true⟩])
   (.seq (.reg [2, 3, 4, 5] [⟨(some 10), .load true 2 (.s 3), none, [], false⟩,
     ⟨(some 11), .call (.c (.fn (.func 115) [] [])) [(.s 10)], none, [], false⟩,
     ⟨(some 7), .mv (.s 11), none, [], true⟩])
   (.seq (.seq (.reg [2, 3, 4, 5, 7] [⟨(some 12), .mv (.s 7), none, [], false⟩,
     ⟨(some 13), .len false (.s 12), none, [], false⟩,
     ⟨(some 14), .bin .eql .num (.s 13) (.c (.int .i64 0)), none, [], false⟩])
   (.cond (.s 14)
    (.seq (.reg [4, 5] [⟨(some 15), .build [(.bool false), (.sl .nil [])] [], none, [], false⟩,
      ⟨(some 16), .build [(.bool false), (.sl .nil [])] [], none, [], false⟩,
      ⟨none, .store 2 (.s 4) (.s 15), none, [], false⟩,
      ⟨none, .store 2 (.s 5) (.s 16), none, [], false⟩,
      ⟨(some 6), .mv (.c (.int .i64 2)), none, [], true⟩])
    .ret)
    .skip))
   (.seq (.reg [2, 3, 4, 5, 7] [⟨(some 18), .load true 2 (.s 2), none, [], false⟩,
     ⟨(some 19), .call (.c (.fn (.func 115) [] [])) [(.s 18)], none, [], false⟩,
     ⟨(some 20), .mv (.s 7), none, [], false⟩,
     ⟨(some 21), .call (.c (.fn (.func 162) [] [])) [(.s 19), (.s 20)], none, [], false⟩,
     ⟨(some 17), .mv (.s 21), none, [], false⟩,
     ⟨(some 22), .extr (.s 17) 0, none, [], false⟩,
     ⟨(some 23), .extr (.s 17) 1, none, [], false⟩,
     ⟨(some 8), .mv (.s 22), none, [], true⟩,
     ⟨(some 9), .mv (.s 23), none, [], true⟩])
   (.seq (.seq (.reg [2, 3, 4, 5, 7, 8, 9] [⟨(some 24), .load true 2 (.s 2), none, [], false⟩,
     ⟨(some 25), .call (.c (.fn (.func 157) [] [])) [(.s 24)], none, [], false⟩,
     ⟨(some 26), .mv (.s 25), none, [], false⟩,
     ⟨(some 27), .mv (.s 9), (some (26, true)), [], false⟩,
     ⟨(some 28), .len false (.s 27), (some (26, true)), [], false⟩,
     ⟨(some 29), .bin .gtr .num (.s 28) (.c (.int .i64 0)), (some (26, true)), [], false⟩,
     ⟨(some 30), .pick (.s 26) (.s 29) (.c (.bool false)), none, [], false⟩])
   (.cond (.s 30)
    (.reg [2, 3, 4, 5, 7, 8, 9] [⟨(some 31), .mv (.s 8), none, [], false⟩,
      ⟨(some 32), .bsl 1 (.int .u32 0) 1 [(0, (.c (.int .u32 1)))], none, [], false⟩,
      ⟨(some 33), .call (.c (.fn (.func 158) [] [])) [(.s 31), (.s 32)], none, [], false⟩,
      ⟨(some 34), .mv (.s 7), none, [], false⟩,
      ⟨(some 35), .mv (.s 9), none, [], false⟩,
      ⟨(some 36), .call (.c (.fn (.func 160) [] [])) [(.s 34), (.s 35)], none, [], false⟩,
      ⟨(some 8), .mv (.s 33), none, [], true⟩,
      ⟨(some 9), .mv (.s 36), none, [], true⟩])
    .skip))
   (.seq (.draw [2, 3, 4, 5, 8, 9] [⟨(some 37), .load true 2 (.s 2), none, [], false⟩,
     ⟨(some 38), .call (.c (.fn (.func 157) [] [])) [(.s 37)], none, [0], false⟩,
     ⟨(some 39), .load true 2 (.s 3), none, [], false⟩,
     ⟨(some 40), .call (.c (.fn (.func 157) [] [])) [(.s 39)], none, [2, 1], false⟩,
     ⟨(some 41), .bin .neq .bool (.s 38) (.s 40), none, [1, 3], false⟩,
     ⟨(some 42), .mv (.s 8), none, [], false⟩,
     ⟨(some 43), .call (.c (.fn (.func 148) [] [])) [(.s 41), (.s 42)], none, [4, 5, 3], false⟩,
     ⟨(some 44), .mv (.s 9), none, [], false⟩,
     ⟨(some 45), .call (.c (.fn (.func 148) [] [])) [(.c (.bool false)), (.s 44)], none, [7, 6], false⟩,
     ⟨none, .store 2 (.s 4) (.s 43), none, [6, 8, 0, 1, 2, 3, 4, 5], false⟩,
     ⟨none, .store 2 (.s 5) (.s 45), none, [8, 9, 0, 1, 2, 3, 4, 5, 6, 7], false⟩,
     ⟨(some 6), .mv (.c (.int .i64 0)), none, [10, 0, 1, 2, 3, 4, 5, 6, 7, 8, 9], true⟩])
   .ret)))))) }
theorem tr171 : trF Tryz.prog h171 Tryz.f171 = some i171 := by kernel_rfl

-- ashlar/upoly.power
def h172 : List (List Nat) := [[0, 1], [1, 2]]
def i172 : IFn := { nparams := 2, ntmps := 10, results := [.tmp 4], body :=
  (.seq (.reg [0, 1] [⟨(some 2), .box 2 (.s 0), none, [], false⟩,
     ⟨(some 4), .mv (.c (.sl .nil [])), none, [], true⟩])
   (.seq (.draw [1, 2] [⟨(some 5), .mv (.s 1), none, [], false⟩,
     ⟨(some 6), .mksl 2 32 (.agg [(.bool false), (.sl .nil [])]) (.s 5) (.s 5), none, [0], false⟩,
     ⟨(some 7), .load true 2 (.s 2), none, [], false⟩,
     ⟨(some 8), .bsl 2 (.agg [(.bool false), (.sl .nil [])]) 1 [(0, (.s 7))], none, [2], false⟩,
     ⟨(some 9), .app 2 32 (.s 6) (.s 8), none, [1, 3], false⟩,
     ⟨(some 4), .mv (.s 9), none, [4, 0, 1, 2, 3], true⟩])
   .ret)) }
theorem tr172 : trF Tryz.prog h172 Tryz.f172 = some i172 := by kernel_rfl

-- ashlar/limbs.times
def h173 : List (List Nat) := [[0, 1], [0, 1], [0, 1], [0, 1], [0, 1], [0, 1], [0, 1, 5], [1, 5, 6, 7], [1, 5, 6, 7], [1, 5, 6, 7], [5, 6, 7, 8, 9], [5, 6, 7, 8, 9, 10, 11], [5, 10, 11, 12]]
def i173 : IFn := { nparams := 2, ntmps := 84, results := [.tmp 4], body :=
  (.seq (.reg [0, 1] [⟨(some 4), .mv (.c (.sl .nil [])), none, [], true⟩])
   (.seq (.seq (.reg [0, 1] [⟨(some 13), .mv (.s 0), none, [], false⟩,
     ⟨(some 14), .len false (.s 13), none, [], false⟩,
     ⟨(some 15), .mv (.s 1), none, [], false⟩,
     ⟨(some 16), .len false (.s 15), none, [], false⟩,
     ⟨(some 17), .bin .lss .num (.s 14) (.s 16), none, [], false⟩])
   (.cond (.s 17)
    (.reg [0, 1] [⟨(some 18), .mv (.s 1), none, [], false⟩,
      ⟨(some 19), .mv (.s 0), none, [], false⟩,
      ⟨(some 0), .mv (.s 18), none, [], true⟩,
      ⟨(some 1), .mv (.s 19), none, [], true⟩])
    .skip))
   (.seq (.seq (.reg [0, 1] [⟨(some 20), .mv (.s 1), none, [], false⟩,
     ⟨(some 21), .len false (.s 20), none, [], false⟩,
     ⟨(some 22), .bin .lss .num (.s 21) (.c (.int .i64 40)), none, [], false⟩])
   (.cond (.s 22)
    (.seq (.reg [0, 1] [⟨(some 23), .mv (.s 0), none, [], false⟩,
      ⟨(some 24), .mv (.s 1), none, [], false⟩,
      ⟨(some 25), .call (.c (.fn (.func 196) [] [])) [(.s 23), (.s 24)], none, [], false⟩,
      ⟨(some 4), .mv (.s 25), none, [], true⟩])
    .ret)
    .skip))
   (.seq (.reg [0, 1] [⟨(some 26), .mv (.s 0), none, [], false⟩,
     ⟨(some 27), .len false (.s 26), none, [], false⟩,
     ⟨(some 28), .bin .add .num (.s 27) (.c (.int .i64 1)), none, [], false⟩,
     ⟨(some 29), .bin .quo .num (.s 28) (.c (.int .i64 2)), none, [], false⟩,
     ⟨(some 5), .mv (.s 29), none, [], true⟩])
   (.seq (.draw [0, 1, 5] [⟨(some 30), .mv (.s 0), none, [], false⟩,
     ⟨(some 31), .mv (.s 5), none, [], false⟩,
     ⟨(some 32), .slice 1 (.s 30) none (some (.s 31)) none, none, [0, 1], false⟩,
     ⟨(some 33), .call (.c (.fn (.func 156) [] [])) [(.s 32)], none, [2], false⟩,
     ⟨(some 34), .mv (.s 0), none, [], false⟩,
     ⟨(some 35), .mv (.s 5), none, [], false⟩,
     ⟨(some 36), .slice 1 (.s 34) (some (.s 35)) none none, none, [4, 5], false⟩,
     ⟨(some 6), .mv (.s 33), none, [3, 0, 1, 2], true⟩,
     ⟨(some 7), .mv (.s 36), none, [6, 7, 0, 1, 2, 3, 4, 5], true⟩])
   (.seq (.seq (.reg [1, 5, 6, 7] [⟨(some 37), .mv (.s 1), none, [], false⟩,
     ⟨(some 38), .len false (.s 37), none, [], false⟩,
     ⟨(some 39), .mv (.s 5), none, [], false⟩,
     ⟨(some 40), .bin .leq .num (.s 38) (.s 39), none, [], false⟩])
   (.cond (.s 40)
    (.seq (.reg [1, 5, 6, 7] [⟨(some 41), .mv (.s 6), none, [], false⟩,
      ⟨(some 42), .mv (.s 1), none, [], false⟩,
      ⟨(some 43), .call (.c (.fn (.func 173) [] [])) [(.s 41), (.s 42)], none, [], false⟩,
      ⟨(some 44), .mv (.s 7), none, [], false⟩,
      ⟨(some 45), .mv (.s 1), none, [], false⟩,
      ⟨(some 46), .call (.c (.fn (.func 173) [] [])) [(.s 44), (.s 45)], none, [], false⟩,
      ⟨(some 47), .mv (.s 5), none, [], false⟩,
      ⟨(some 48), .call (.c (.fn (.func 197) [] [])) [(.s 46), (.s 47)], none, [], false⟩,
      ⟨(some 49), .call (.c (.fn (.func 158) [] [])) [(.s 43), (.s 48)], none, [], false⟩,
      ⟨(some 4), .mv (.s 49), none, [], true⟩])
    .ret)
    .skip))
   (.seq (.draw [1, 5, 6, 7] [⟨(some 50), .mv (.s 1), none, [], false⟩,
     ⟨(some 51), .mv (.s 5), none, [], false⟩,
     ⟨(some 52), .slice 1 (.s 50) none (some (.s 51)) none, none, [0, 1], false⟩,
     ⟨(some 53), .call (.c (.fn (.func 156) [] [])) [(.s 52)], none, [2], false⟩,
     ⟨(some 54), .mv (.s 1), none, [], false⟩,
     ⟨(some 55), .mv (.s 5), none, [], false⟩,
     ⟨(some 56), .slice 1 (.s 54) (some (.s 55)) none none, none, [4, 5], false⟩,
     ⟨(some 8), .mv (.s 53), none, [3, 0, 1, 2], true⟩,
     ⟨(some 9), .mv (.s 56), none, [6, 7, 0, 1, 2, 3, 4, 5], true⟩])
   (.seq (.reg [5, 6, 7, 8, 9] [⟨(some 57), .mv (.s 6), none, [], false⟩,
     ⟨(some 58), .mv (.s 8), none, [], false⟩,
     ⟨(some 59), .call (.c (.fn (.func 173) [] [])) [(.s 57), (.s 58)], none, [], false⟩,
     ⟨(some 60), .mv (.s 7), none, [], false⟩,
     ⟨(some 61), .mv (.s 9), none, [], false⟩,
     ⟨(some 62), .call (.c (.fn (.func 173) [] [])) [(.s 60), (.s 61)], none, [], false⟩,
     ⟨(some 10), .mv (.s 59), none, [], true⟩,
     ⟨(some 11), .mv (.s 62), none, [], true⟩])
   (.seq (.reg [5, 6, 7, 8, 9, 10, 11] [⟨(some 63), .mv (.s 6), none, [], false⟩,
     ⟨(some 64), .mv (.s 7), none, [], false⟩,
     ⟨(some 65), .call (.c (.fn (.func 158) [] [])) [(.s 63), (.s 64)], none, [], false⟩,
     ⟨(some 66), .mv (.s 8), none, [], false⟩,
     ⟨(some 67), .mv (.s 9), none, [], false⟩,
     ⟨(some 68), .call (.c (.fn (.func 158) [] [])) [(.s 66), (.s 67)], none, [], false⟩,
     ⟨(some 69), .call (.c (.fn (.func 173) [] [])) [(.s 65), (.s 68)], none, [], false⟩,
     ⟨(some 70), .mv (.s 10), none, [], false⟩,
     ⟨(some 71), .call (.c (.fn (.func 160) [] [])) [(.s 69), (.s 70)], none, [], false⟩,
     ⟨(some 72), .mv (.s 11), none, [], false⟩,
     ⟨(some 73), .call (.c (.fn (.func 160) [] [])) [(.s 71), (.s 72)], none, [], false⟩,
     ⟨(some 12), .mv (.s 73), none, [], true⟩])
   (.seq (.reg [5, 10, 11, 12] [⟨(some 74), .mv (.s 10), none, [], false⟩,
     ⟨(some 75), .mv (.s 12), none, [], false⟩,
     ⟨(some 76), .mv (.s 5), none, [], false⟩,
     ⟨(some 77), .call (.c (.fn (.func 197) [] [])) [(.s 75), (.s 76)], none, [], false⟩,
     ⟨(some 78), .call (.c (.fn (.func 158) [] [])) [(.s 74), (.s 77)], none, [], false⟩,
     ⟨(some 79), .mv (.s 11), none, [], false⟩,
     ⟨(some 80), .mv (.s 5), none, [], false⟩,
     ⟨(some 81), .bin .mul .num (.c (.int .i64 2)) (.s 80), none, [], false⟩,
     ⟨(some 82), .call (.c (.fn (.func 197) [] [])) [(.s 79), (.s 81)], none, [], false⟩,
     ⟨(some 83), .call (.c (.fn (.func 158) [] [])) [(.s 78), (.s 82)], none, [], false⟩,
     ⟨(some 4), .mv (.s 83), none, [], true⟩])
   .ret)))))))))) }
theorem tr173 : trF Tryz.prog h173 Tryz.f173 = some i173 := by kernel_rfl

-- ashlar/ore.at
def h174 : List (List Nat) := [[0, 1], [0, 1], [0, 1], []]
def i174 : IFn := { nparams := 2, ntmps := 13, results := [.tmp 4], body :=
  (.seq (.reg [0, 1] [⟨(some 4), .mv (.c (.sl .nil [])), none, [], true⟩])
   (.seq (.seq (.reg [0, 1] [⟨(some 5), .mv (.s 1), none, [], false⟩,
     ⟨(some 6), .mv (.s 0), none, [], false⟩,
     ⟨(some 7), .len false (.s 6), none, [], false⟩,
     ⟨(some 8), .bin .lss .num (.s 5) (.s 7), none, [], false⟩])
   (.cond (.s 8)
    (.seq (.reg [0, 1] [⟨(some 9), .mv (.s 0), none, [], false⟩,
      ⟨(some 10), .mv (.s 1), none, [], false⟩,
      ⟨(some 11), .idxA 1 (.s 9) (.s 10), none, [], false⟩,
      ⟨(some 12), .load false 1 (.s 11), none, [], false⟩,
      ⟨(some 4), .mv (.s 12), none, [], true⟩])
    .ret)
    .skip))
   (.seq (.reg [] [⟨(some 4), .mv (.c (.sl .nil [])), none, [], true⟩])
   .ret))) }
theorem tr174 : trF Tryz.prog h174 Tryz.f174 = some i174 := by kernel_rfl

-- ashlar/upoly.sum
def h175 : List (List Nat) := [[0, 1, 2], [0, 1, 2], [0, 1, 2], [0, 1, 2, 7], [0, 1, 2, 7, 20, 21], [0, 1, 2, 7, 20, 21], [0, 1, 2, 7, 20, 21], [0, 1, 2, 7, 8, 20, 21], [0, 1, 2, 7, 20, 21], [7]]
def i175b0 : ICode :=
  (.seq (.reg [0, 1, 2, 7, 20, 21] [⟨(some 22), .bin .lss .num (.s 21) (.s 20), none, [], false⟩])
  (.seq (.cond (.s 22)
   .skip
   (.exit 0))
  (.seq (.block 1
   (.seq (.reg [0, 1, 2, 7, 20, 21] [⟨(some 23), .mv (.s 21), none, [], false⟩,
     ⟨(some 8), .mv (.s 23), none, [], true⟩])
   (.reg [0, 1, 2, 7, 8, 20, 21] [⟨(some 24), .mv (.s 7), none, [], false⟩,
     ⟨(some 25), .mv (.s 8), none, [], false⟩,
     ⟨(some 26), .mv (.s 2), none, [], false⟩,
     ⟨(some 27), .mv (.s 0), none, [], false⟩,
     ⟨(some 28), .mv (.s 8), none, [], false⟩,
     ⟨(some 29), .call (.c (.fn (.func 198) [] [])) [(.s 27), (.s 28)], none, [], false⟩,
     ⟨(some 30), .mv (.s 1), none, [], false⟩,
     ⟨(some 31), .mv (.s 8), none, [], false⟩,
     ⟨(some 32), .call (.c (.fn (.func 198) [] [])) [(.s 30), (.s 31)], none, [], false⟩,
     ⟨(some 33), .call (.s 26) [(.s 29), (.s 32)], none, [], false⟩,
     ⟨(some 34), .idxA 2 (.s 24) (.s 25), none, [], false⟩,
     ⟨none, .store 2 (.s 34) (.s 33), none, [], false⟩])))
  (.reg [0, 1, 2, 7, 20, 21] [⟨(some 35), .bin .add .num (.s 21) (.c (.int .i64 1)), none, [], false⟩,
    ⟨(some 21), .mv (.s 35), none, [], false⟩]))))
def i175 : IFn := { nparams := 3, ntmps := 38, results := [.tmp 6], body :=
  (.seq (.reg [0, 1, 2] [⟨(some 6), .mv (.c (.sl .nil [])), none, [], true⟩])
   (.seq (.reg [0, 1, 2] [⟨(some 9), .mv (.s 0), none, [], false⟩,
     ⟨(some 10), .call (.c (.fn (.func 122) [] [])) [(.s 9)], none, [], false⟩,
     ⟨(some 11), .mv (.s 1), none, [], false⟩,
     ⟨(some 12), .call (.c (.fn (.func 122) [] [])) [(.s 11)], none, [], false⟩,
     ⟨(some 0), .mv (.s 10), none, [], true⟩,
     ⟨(some 1), .mv (.s 12), none, [], true⟩])
   (.seq (.reg [0, 1, 2] [⟨(some 13), .mv (.s 0), none, [], false⟩,
     ⟨(some 14), .len false (.s 13), none, [], false⟩,
     ⟨(some 15), .mv (.s 1), none, [], false⟩,
     ⟨(some 16), .len false (.s 15), none, [], false⟩,
     ⟨(some 17), .mx [(.s 14), (.s 16)], none, [], false⟩,
     ⟨(some 18), .mksl 2 32 (.agg [(.bool false), (.sl .nil [])]) (.s 17) (.s 17), none, [], false⟩,
     ⟨(some 7), .mv (.s 18), none, [], true⟩])
   (.seq (.seq (.reg [0, 1, 2, 7] [⟨(some 19), .mv (.s 7), none, [], false⟩,
     ⟨(some 20), .len false (.s 19), none, [], false⟩,
     ⟨(some 21), .mv (.c (.int .i64 0)), none, [], false⟩])
   (.block 0
    (.loop [0, 1, 2, 7, 20, 21] i175b0)))
   (.seq (.reg [7] [⟨(some 36), .mv (.s 7), none, [], false⟩,
     ⟨(some 37), .call (.c (.fn (.func 122) [] [])) [(.s 36)], none, [], false⟩,
     ⟨(some 6), .mv (.s 37), none, [], true⟩])
   .ret))))) }
theorem tr175 : trF Tryz.prog h175 Tryz.f175 = some i175 := by kernel_rfl

-- ashlar/limbs.Sub
def h176 : List (List Nat) := [[0, 1], [2, 3, 4]]
def i176 : IFn := { nparams := 2, ntmps := 8, results := [.cell 4 true 2], body :=
  (.seq (.reg [0, 1] [⟨(some 2), .box 2 (.s 0), none, [], false⟩,
     ⟨(some 3), .box 2 (.s 1), none, [], false⟩,
     ⟨(some 4), .alloc 2 (.agg [(.bool false), (.sl .nil [])]), none, [], false⟩])
   (.seq (.reg [2, 3, 4] [⟨(some 5), .load true 2 (.s 2), none, [], false⟩,
     ⟨(some 6), .load true 2 (.s 3), none, [], false⟩,
     ⟨(some 7), .call (.c (.fn (.func 116) [] [])) [(.s 5), (.s 6), (.c (.bool true))], none, [], false⟩,
     ⟨none, .store 2 (.s 4) (.s 7), none, [], false⟩])
   .ret)) }
theorem tr176 : trF Tryz.prog h176 Tryz.f176 = some i176 := by kernel_rfl

-- ashlar/upoly.line
def h177 : List (List Nat) := [[0], [1]]
def i177 : IFn := { nparams := 1, ntmps := 6, results := [.tmp 2], body :=
  (.seq (.reg [0] [⟨(some 1), .box 2 (.s 0), none, [], false⟩,
     ⟨(some 2), .mv (.c (.sl .nil [])), none, [], true⟩])
   (.seq (.draw [1] [⟨(some 3), .load true 2 (.s 1), none, [], false⟩,
     ⟨(some 4), .call (.c (.fn (.func 107) [] [])) [(.c (.int .i64 1))], none, [], false⟩,
     ⟨(some 5), .bsl 2 (.agg [(.bool false), (.sl .nil [])]) 2 [(0, (.s 3)), (1, (.s 4))], none, [0, 1], false⟩,
     ⟨(some 2), .mv (.s 5), none, [2, 1, 0], true⟩])
   .ret)) }
theorem tr177 : trF Tryz.prog h177 Tryz.f177 = some i177 := by kernel_rfl

-- ashlar/ashlarref1.Abs
def h178 : List (List Nat) := [[0], [1, 2]]
def i178 : IFn := { nparams := 1, ntmps := 6, results := [.cell 2 true 2], body :=
  (.seq (.reg [0] [⟨(some 1), .box 2 (.s 0), none, [], false⟩,
     ⟨(some 2), .alloc 2 (.agg [(.bool false), (.sl .nil [])]), none, [], false⟩])
   (.seq (.reg [1, 2] [⟨(some 3), .fldA 1 false 1 (.s 1), none, [], false⟩,
     ⟨(some 4), .load false 1 (.s 3), none, [], false⟩,
     ⟨(some 5), .build [(.bool false), (.sl .nil [])] [(0, 1, (.c (.bool false))), (1, 1, (.s 4))], none, [], false⟩,
     ⟨none, .store 2 (.s 2) (.s 5), none, [], false⟩])
   .ret)) }
theorem tr178 : trF Tryz.prog h178 Tryz.f178 = some i178 := by kernel_rfl

-- ashlar/ashlarref1.Neg
def h179 : List (List Nat) := [[0], [1, 2]]
def i179 : IFn := { nparams := 1, ntmps := 9, results := [.cell 2 true 2], body :=
  (.seq (.reg [0] [⟨(some 1), .box 2 (.s 0), none, [], false⟩,
     ⟨(some 2), .alloc 2 (.agg [(.bool false), (.sl .nil [])]), none, [], false⟩])
   (.seq (.reg [1, 2] [⟨(some 3), .fldA 0 false 1 (.s 1), none, [], false⟩,
     ⟨(some 4), .load false 1 (.s 3), none, [], false⟩,
     ⟨(some 5), .un .not (.s 4), none, [], false⟩,
     ⟨(some 6), .fldA 1 false 1 (.s 1), none, [], false⟩,
     ⟨(some 7), .load false 1 (.s 6), none, [], false⟩,
     ⟨(some 8), .call (.c (.fn (.func 72) [] [])) [(.s 5), (.s 7)], none, [], false⟩,
     ⟨none, .store 2 (.s 2) (.s 8), none, [], false⟩])
   .ret)) }
theorem tr179 : trF Tryz.prog h179 Tryz.f179 = some i179 := by kernel_rfl

-- ashlar/ashlarref3.Under
def h180 : List (List Nat) := [[0, 1], [0, 3], [0, 3, 5], [0, 3, 5, 6], [0, 3, 5, 6], [0, 3, 5, 6], [0, 3, 5, 6, 7], [0, 3, 5, 6], [5]]
def i180b0 : ICode :=
  (.seq (.seq (.reg [0, 3, 5, 6] [⟨(some 9), .mv (.s 6), none, [], false⟩,
    ⟨(some 10), .mv (.s 0), none, [], false⟩,
    ⟨(some 11), .len false (.s 10), none, [], false⟩,
    ⟨(some 12), .bin .lss .num (.s 9) (.s 11), none, [], false⟩])
  (.cond (.s 12)
   .skip
   (.exit 0)))
  (.seq (.block 1
   (.seq (.draw [0, 3, 5, 6] [⟨(some 16), .mv (.s 0), none, [], false⟩,
     ⟨(some 17), .mv (.s 6), none, [], false⟩,
     ⟨(some 18), .idxA 2 (.s 16) (.s 17), none, [0, 1], false⟩,
     ⟨(some 19), .load true 2 (.s 18), none, [2], false⟩,
     ⟨(some 20), .load true 2 (.s 3), none, [], false⟩,
     ⟨(some 21), .call (.c (.fn (.func 113) [] [])) [(.s 19), (.s 20)], none, [3, 4], false⟩,
     ⟨(some 15), .mv (.s 21), none, [5], false⟩,
     ⟨(some 22), .extr (.s 15) 0, none, [6], false⟩,
     ⟨(some 23), .extr (.s 15) 1, none, [6], false⟩,
     ⟨(some 7), .alloc 2 (.agg [(.bool false), (.sl .nil [])]), none, [], false⟩,
     ⟨(some 8), .alloc 2 (.agg [(.bool false), (.sl .nil [])]), none, [], false⟩,
     ⟨none, .store 2 (.s 7) (.s 22), none, [9, 7, 5, 0, 1, 2, 3, 4, 6, 10], false⟩,
     ⟨none, .store 2 (.s 8) (.s 23), none, [10, 8, 11, 0, 1, 2, 3, 4, 5, 6, 7, 9], false⟩])
   (.reg [0, 3, 5, 6, 7] [⟨(some 24), .mv (.s 5), none, [], false⟩,
     ⟨(some 25), .load true 2 (.s 7), none, [], false⟩,
     ⟨(some 26), .bsl 2 (.agg [(.bool false), (.sl .nil [])]) 1 [(0, (.s 25))], none, [], false⟩,
     ⟨(some 27), .app 2 32 (.s 24) (.s 26), none, [], false⟩,
     ⟨(some 5), .mv (.s 27), none, [], true⟩])))
  (.reg [0, 3, 5, 6] [⟨(some 13), .mv (.s 6), none, [], false⟩,
    ⟨(some 14), .bin .add .num (.s 13) (.c (.int .i64 1)), none, [], false⟩,
    ⟨(some 6), .mv (.s 14), none, [], true⟩])))
def i180 : IFn := { nparams := 2, ntmps := 30, results := [.tmp 4], body :=
  (.seq (.reg [0, 1] [⟨(some 3), .box 2 (.s 1), none, [], false⟩,
     ⟨(some 4), .mv (.c (.sl .nil [])), none, [], true⟩])
   (.seq (.reg [0, 3] [⟨(some 5), .mv (.c (.sl .nil [])), none, [], true⟩])
   (.seq (.seq (.reg [0, 3, 5] [⟨(some 6), .mv (.c (.int .i64 0)), none, [], true⟩])
   (.block 0
    (.loop [0, 3, 5, 6] i180b0)))
   (.seq (.reg [5] [⟨(some 28), .mv (.s 5), none, [], false⟩,
     ⟨(some 29), .call (.c (.fn (.func 49) [] [])) [(.s 28)], none, [], false⟩,
     ⟨(some 4), .mv (.s 29), none, [], true⟩])
   .ret)))) }
theorem tr180 : trF Tryz.prog h180 Tryz.f180 = some i180 := by kernel_rfl

-- ashlar/ashlarref1.small
def h181 : List (List Nat) := [[0, 1], [0, 1], [0, 1, 6], [0, 1, 6, 7], [0, 1, 6, 7, 8], [0, 1, 6, 7, 8], [0, 1, 6, 7, 8], [0, 1, 6, 7, 8], [0, 1, 6, 7, 8], [0, 1, 6, 7, 8], [6, 7]]
def i181b0 : ICode :=
  (.seq (.seq (.reg [0, 1, 6, 7, 8] [⟨(some 15), .mv (.s 8), none, [], false⟩,
    ⟨(some 16), .bin .geq .num (.s 15) (.c (.int .i64 0)), none, [], false⟩])
  (.cond (.s 16)
   .skip
   (.exit 0)))
  (.seq (.block 1
   (.seq (.reg [0, 1, 6, 7, 8] [⟨(some 19), .mv (.s 7), none, [], false⟩,
     ⟨(some 20), .bin .mul .num (.s 19) (.c (.int .i64 65536)), none, [], false⟩,
     ⟨(some 21), .mv (.s 0), none, [], false⟩,
     ⟨(some 22), .mv (.s 8), none, [], false⟩,
     ⟨(some 23), .idxA 1 (.s 21) (.s 22), none, [], false⟩,
     ⟨(some 24), .load false 1 (.s 23), none, [], false⟩,
     ⟨(some 25), .bin .add .num (.s 20) (.s 24), none, [], false⟩,
     ⟨(some 7), .mv (.s 25), none, [], true⟩])
   (.seq (.reg [0, 1, 6, 7, 8] [⟨(some 26), .mv (.s 6), none, [], false⟩,
     ⟨(some 27), .mv (.s 8), none, [], false⟩,
     ⟨(some 28), .mv (.s 7), none, [], false⟩,
     ⟨(some 29), .mv (.s 1), none, [], false⟩,
     ⟨(some 30), .bin .quo .num (.s 28) (.s 29), none, [], false⟩,
     ⟨(some 31), .idxA 1 (.s 26) (.s 27), none, [], false⟩,
     ⟨none, .store 1 (.s 31) (.s 30), none, [], false⟩])
   (.reg [0, 1, 6, 7, 8] [⟨(some 32), .mv (.s 7), none, [], false⟩,
     ⟨(some 33), .mv (.s 1), none, [], false⟩,
     ⟨(some 34), .bin .rem .num (.s 32) (.s 33), none, [], false⟩,
     ⟨(some 7), .mv (.s 34), none, [], true⟩]))))
  (.reg [0, 1, 6, 7, 8] [⟨(some 17), .mv (.s 8), none, [], false⟩,
    ⟨(some 18), .bin .sub .num (.s 17) (.c (.int .i64 1)), none, [], false⟩,
    ⟨(some 8), .mv (.s 18), none, [], true⟩])))
def i181 : IFn := { nparams := 2, ntmps := 37, results := [.tmp 4, .tmp 5], body :=
  (.seq (.reg [0, 1] [⟨(some 4), .mv (.c (.sl .nil [])), none, [], true⟩,
     ⟨(some 5), .mv (.c (.int .i64 0)), none, [], true⟩])
   (.seq (.reg [0, 1] [⟨(some 9), .mv (.s 0), none, [], false⟩,
     ⟨(some 10), .len false (.s 9), none, [], false⟩,
     ⟨(some 11), .mksl 1 8 (.int .i64 0) (.s 10) (.s 10), none, [], false⟩,
     ⟨(some 6), .mv (.s 11), none, [], true⟩])
   (.seq (.reg [0, 1, 6] [⟨(some 7), .mv (.c (.int .i64 0)), none, [], true⟩])
   (.seq (.seq (.reg [0, 1, 6, 7] [⟨(some 12), .mv (.s 0), none, [], false⟩,
     ⟨(some 13), .len false (.s 12), none, [], false⟩,
     ⟨(some 14), .bin .sub .num (.s 13) (.c (.int .i64 1)), none, [], false⟩,
     ⟨(some 8), .mv (.s 14), none, [], true⟩])
   (.block 0
    (.loop [0, 1, 6, 7, 8] i181b0)))
   (.seq (.reg [6, 7] [⟨(some 35), .mv (.s 6), none, [], false⟩,
     ⟨(some 36), .mv (.s 7), none, [], false⟩,
     ⟨(some 4), .mv (.s 35), none, [], true⟩,
     ⟨(some 5), .mv (.s 36), none, [], true⟩])
   .ret))))) }
theorem tr181 : trF Tryz.prog h181 Tryz.f181 = some i181 := by kernel_rfl

-- ashlar/ashlarref1.times
def h182 : List (List Nat) := [[0, 1], [0, 1], [0, 1, 5], [0, 1, 5, 6], [0, 1, 5, 6, 7], [0, 1, 5, 6, 7], [0, 1, 5, 6, 7], [0, 1, 5, 6, 7], [0, 1, 5, 6, 7], [0, 1, 5, 6, 7], [0, 5, 6], [5]]
def i182b0 : ICode :=
  (.seq (.seq (.reg [0, 1, 5, 6, 7] [⟨(some 12), .mv (.s 7), none, [], false⟩,
    ⟨(some 13), .mv (.s 0), none, [], false⟩,
    ⟨(some 14), .len false (.s 13), none, [], false⟩,
    ⟨(some 15), .bin .lss .num (.s 12) (.s 14), none, [], false⟩])
  (.cond (.s 15)
   .skip
   (.exit 0)))
  (.seq (.block 1
   (.seq (.reg [0, 1, 5, 6, 7] [⟨(some 18), .mv (.s 6), none, [], false⟩,
     ⟨(some 19), .mv (.s 0), none, [], false⟩,
     ⟨(some 20), .mv (.s 7), none, [], false⟩,
     ⟨(some 21), .idxA 1 (.s 19) (.s 20), none, [], false⟩,
     ⟨(some 22), .load false 1 (.s 21), none, [], false⟩,
     ⟨(some 23), .mv (.s 1), none, [], false⟩,
     ⟨(some 24), .bin .mul .num (.s 22) (.s 23), none, [], false⟩,
     ⟨(some 25), .bin .add .num (.s 18) (.s 24), none, [], false⟩,
     ⟨(some 6), .mv (.s 25), none, [], true⟩])
   (.seq (.reg [0, 1, 5, 6, 7] [⟨(some 26), .mv (.s 5), none, [], false⟩,
     ⟨(some 27), .mv (.s 7), none, [], false⟩,
     ⟨(some 28), .mv (.s 6), none, [], false⟩,
     ⟨(some 29), .bin .rem .num (.s 28) (.c (.int .i64 65536)), none, [], false⟩,
     ⟨(some 30), .idxA 1 (.s 26) (.s 27), none, [], false⟩,
     ⟨none, .store 1 (.s 30) (.s 29), none, [], false⟩])
   (.reg [0, 1, 5, 6, 7] [⟨(some 31), .mv (.s 6), none, [], false⟩,
     ⟨(some 32), .bin .quo .num (.s 31) (.c (.int .i64 65536)), none, [], false⟩,
     ⟨(some 6), .mv (.s 32), none, [], true⟩]))))
  (.reg [0, 1, 5, 6, 7] [⟨(some 16), .mv (.s 7), none, [], false⟩,
    ⟨(some 17), .bin .add .num (.s 16) (.c (.int .i64 1)), none, [], false⟩,
    ⟨(some 7), .mv (.s 17), none, [], true⟩])))
def i182 : IFn := { nparams := 2, ntmps := 39, results := [.tmp 4], body :=
  (.seq (.reg [0, 1] [⟨(some 4), .mv (.c (.sl .nil [])), none, [], true⟩])
   (.seq (.reg [0, 1] [⟨(some 8), .mv (.s 0), none, [], false⟩,
     ⟨(some 9), .len false (.s 8), none, [], false⟩,
     ⟨(some 10), .bin .add .num (.s 9) (.c (.int .i64 1)), none, [], false⟩,
     ⟨(some 11), .mksl 1 8 (.int .i64 0) (.s 10) (.s 10), none, [], false⟩,
     ⟨(some 5), .mv (.s 11), none, [], true⟩])
   (.seq (.reg [0, 1, 5] [⟨(some 6), .mv (.c (.int .i64 0)), none, [], true⟩])
   (.seq (.seq (.reg [0, 1, 5, 6] [⟨(some 7), .mv (.c (.int .i64 0)), none, [], true⟩])
   (.block 0
    (.loop [0, 1, 5, 6, 7] i182b0)))
   (.seq (.reg [0, 5, 6] [⟨(some 33), .mv (.s 5), none, [], false⟩,
     ⟨(some 34), .mv (.s 0), none, [], false⟩,
     ⟨(some 35), .len false (.s 34), none, [], false⟩,
     ⟨(some 36), .mv (.s 6), none, [], false⟩,
     ⟨(some 37), .idxA 1 (.s 33) (.s 35), none, [], false⟩,
     ⟨none, .store 1 (.s 37) (.s 36), none, [], false⟩])
   (.seq (.reg [5] [⟨(some 38), .mv (.s 5), none, [], false⟩,
     ⟨(some 4), .mv (.s 38), none, [], true⟩])
   .ret)))))) }
theorem tr182 : trF Tryz.prog h182 Tryz.f182 = some i182 := by kernel_rfl

-- ashlar/limbs.small
def h183 : List (List Nat) := [[0, 1], [0, 1], [0, 1, 6], [0, 1, 6, 7], [0, 1, 6, 7, 8], [0, 1, 6, 7, 8], [0, 1, 6, 7, 8], [0, 1, 6, 7, 8], [0, 1, 6, 7, 8], [0, 1, 6, 7, 8], [6, 7]]
def i183b0 : ICode :=
  (.seq (.seq (.reg [0, 1, 6, 7, 8] [⟨(some 15), .mv (.s 8), none, [], false⟩,
    ⟨(some 16), .bin .geq .num (.s 15) (.c (.int .i64 0)), none, [], false⟩])
  (.cond (.s 16)
   .skip
   (.exit 0)))
  (.seq (.block 1
   (.seq (.reg [0, 1, 6, 7, 8] [⟨(some 19), .mv (.s 7), none, [], false⟩,
     ⟨(some 20), .bin .shl .num (.s 19) (.c (.int .u64 32)), none, [], false⟩,
     ⟨(some 21), .mv (.s 0), none, [], false⟩,
     ⟨(some 22), .mv (.s 8), none, [], false⟩,
     ⟨(some 23), .idxA 1 (.s 21) (.s 22), none, [], false⟩,
     ⟨(some 24), .load false 1 (.s 23), none, [], false⟩,
     ⟨(some 25), .conv .u64 (.s 24), none, [], false⟩,
     ⟨(some 26), .bin .or .num (.s 20) (.s 25), none, [], false⟩,
     ⟨(some 7), .mv (.s 26), none, [], true⟩])
   (.seq (.reg [0, 1, 6, 7, 8] [⟨(some 27), .mv (.s 6), none, [], false⟩,
     ⟨(some 28), .mv (.s 8), none, [], false⟩,
     ⟨(some 29), .mv (.s 7), none, [], false⟩,
     ⟨(some 30), .mv (.s 1), none, [], false⟩,
     ⟨(some 31), .conv .u64 (.s 30), none, [], false⟩,
     ⟨(some 32), .bin .quo .num (.s 29) (.s 31), none, [], false⟩,
     ⟨(some 33), .conv .u32 (.s 32), none, [], false⟩,
     ⟨(some 34), .idxA 1 (.s 27) (.s 28), none, [], false⟩,
     ⟨none, .store 1 (.s 34) (.s 33), none, [], false⟩])
   (.reg [0, 1, 6, 7, 8] [⟨(some 35), .mv (.s 7), none, [], false⟩,
     ⟨(some 36), .mv (.s 1), none, [], false⟩,
     ⟨(some 37), .conv .u64 (.s 36), none, [], false⟩,
     ⟨(some 38), .bin .rem .num (.s 35) (.s 37), none, [], false⟩,
     ⟨(some 7), .mv (.s 38), none, [], true⟩]))))
  (.reg [0, 1, 6, 7, 8] [⟨(some 17), .mv (.s 8), none, [], false⟩,
    ⟨(some 18), .bin .sub .num (.s 17) (.c (.int .i64 1)), none, [], false⟩,
    ⟨(some 8), .mv (.s 18), none, [], true⟩])))
def i183 : IFn := { nparams := 2, ntmps := 43, results := [.tmp 4, .tmp 5], body :=
  (.seq (.reg [0, 1] [⟨(some 4), .mv (.c (.sl .nil [])), none, [], true⟩,
     ⟨(some 5), .mv (.c (.int .u32 0)), none, [], true⟩])
   (.seq (.reg [0, 1] [⟨(some 9), .mv (.s 0), none, [], false⟩,
     ⟨(some 10), .len false (.s 9), none, [], false⟩,
     ⟨(some 11), .mksl 1 4 (.int .u32 0) (.s 10) (.s 10), none, [], false⟩,
     ⟨(some 6), .mv (.s 11), none, [], true⟩])
   (.seq (.reg [0, 1, 6] [⟨(some 7), .mv (.c (.int .u64 0)), none, [], true⟩])
   (.seq (.seq (.reg [0, 1, 6, 7] [⟨(some 12), .mv (.s 0), none, [], false⟩,
     ⟨(some 13), .len false (.s 12), none, [], false⟩,
     ⟨(some 14), .bin .sub .num (.s 13) (.c (.int .i64 1)), none, [], false⟩,
     ⟨(some 8), .mv (.s 14), none, [], true⟩])
   (.block 0
    (.loop [0, 1, 6, 7, 8] i183b0)))
   (.seq (.reg [6, 7] [⟨(some 39), .mv (.s 6), none, [], false⟩,
     ⟨(some 40), .call (.c (.fn (.func 156) [] [])) [(.s 39)], none, [], false⟩,
     ⟨(some 41), .mv (.s 7), none, [], false⟩,
     ⟨(some 42), .conv .u32 (.s 41), none, [], false⟩,
     ⟨(some 4), .mv (.s 40), none, [], true⟩,
     ⟨(some 5), .mv (.s 42), none, [], true⟩])
   .ret))))) }
theorem tr183 : trF Tryz.prog h183 Tryz.f183 = some i183 := by kernel_rfl

-- math/bits.LeadingZeros32
def h184 : List (List Nat) := [[0], [0]]
def i184 : IFn := { nparams := 1, ntmps := 6, results := [.tmp 2], body :=
  (.seq (.reg [0] [⟨(some 2), .mv (.c (.int .i64 0)), none, [], true⟩])
   (.seq (.reg [0] [⟨(some 3), .mv (.s 0), none, [], false⟩,
     ⟨(some 4), .call (.c (.fn (.func 119) [] [])) [(.s 3)], none, [], false⟩,
     ⟨(some 5), .bin .sub .num (.c (.int .i64 32)) (.s 4), none, [], false⟩,
     ⟨(some 2), .mv (.s 5), none, [], true⟩])
   .ret)) }
theorem tr184 : trF Tryz.prog h184 Tryz.f184 = some i184 := by kernel_rfl

-- ashlar/limbs.left
def h185 : List (List Nat) := [[0, 1], [0, 1], [0, 1, 5], [1, 5, 12, 13, 14], [1, 5, 12, 13, 14], [1, 5, 12, 13, 14], [1, 5, 6, 7, 12, 13, 14], [1, 5, 6, 7, 12, 13, 14], [1, 5, 12, 13, 14], [5]]
def i185b0 : ICode :=
  (.seq (.reg [1, 5, 12, 13, 14] [⟨(some 15), .bin .lss .num (.s 14) (.s 13), none, [], false⟩])
  (.seq (.cond (.s 15)
   .skip
   (.exit 0))
  (.seq (.block 1
   (.seq (.reg [1, 5, 12, 13, 14] [⟨(some 16), .mv (.s 14), none, [], false⟩,
     ⟨(some 17), .idxA 1 (.s 12) (.s 14), none, [], false⟩,
     ⟨(some 18), .load false 1 (.s 17), none, [], false⟩,
     ⟨(some 6), .mv (.s 16), none, [], true⟩,
     ⟨(some 7), .mv (.s 18), none, [], true⟩])
   (.seq (.draw [1, 5, 6, 7, 12, 13, 14] [⟨(some 19), .mv (.s 5), none, [], false⟩,
     ⟨(some 20), .mv (.s 6), none, [], false⟩,
     ⟨(some 21), .idxA 1 (.s 19) (.s 20), none, [0, 1], false⟩,
     ⟨(some 22), .load false 1 (.s 21), none, [2], false⟩,
     ⟨(some 23), .mv (.s 7), none, [], false⟩,
     ⟨(some 24), .mv (.s 1), none, [], false⟩,
     ⟨(some 25), .bin .shl .num (.s 23) (.s 24), none, [4, 5], false⟩,
     ⟨(some 26), .bin .or .num (.s 22) (.s 25), none, [3, 6], false⟩,
     ⟨(some 27), .idxA 1 (.s 19) (.s 20), none, [0, 1, 2, 3, 4, 5, 6, 7], false⟩,
     ⟨none, .store 1 (.s 27) (.s 26), none, [8, 7, 0, 1, 2, 3, 4, 5, 6], false⟩])
   (.reg [1, 5, 6, 7, 12, 13, 14] [⟨(some 28), .mv (.s 5), none, [], false⟩,
     ⟨(some 29), .mv (.s 6), none, [], false⟩,
     ⟨(some 30), .bin .add .num (.s 29) (.c (.int .i64 1)), none, [], false⟩,
     ⟨(some 31), .mv (.s 7), none, [], false⟩,
     ⟨(some 32), .conv .u64 (.s 31), none, [], false⟩,
     ⟨(some 33), .mv (.s 1), none, [], false⟩,
     ⟨(some 34), .bin .shl .num (.s 32) (.s 33), none, [], false⟩,
     ⟨(some 35), .bin .shr .num (.s 34) (.c (.int .u64 32)), none, [], false⟩,
     ⟨(some 36), .conv .u32 (.s 35), none, [], false⟩,
     ⟨(some 37), .idxA 1 (.s 28) (.s 30), none, [], false⟩,
     ⟨none, .store 1 (.s 37) (.s 36), none, [], false⟩]))))
  (.reg [1, 5, 12, 13, 14] [⟨(some 38), .bin .add .num (.s 14) (.c (.int .i64 1)), none, [], false⟩,
    ⟨(some 14), .mv (.s 38), none, [], false⟩]))))
def i185 : IFn := { nparams := 2, ntmps := 40, results := [.tmp 4], body :=
  (.seq (.reg [0, 1] [⟨(some 4), .mv (.c (.sl .nil [])), none, [], true⟩])
   (.seq (.reg [0, 1] [⟨(some 8), .mv (.s 0), none, [], false⟩,
     ⟨(some 9), .len false (.s 8), none, [], false⟩,
     ⟨(some 10), .bin .add .num (.s 9) (.c (.int .i64 1)), none, [], false⟩,
     ⟨(some 11), .mksl 1 4 (.int .u32 0) (.s 10) (.s 10), none, [], false⟩,
     ⟨(some 5), .mv (.s 11), none, [], true⟩])
   (.seq (.seq (.reg [0, 1, 5] [⟨(some 12), .mv (.s 0), none, [], false⟩,
     ⟨(some 13), .len false (.s 12), none, [], false⟩,
     ⟨(some 14), .mv (.c (.int .i64 0)), none, [], false⟩])
   (.block 0
    (.loop [1, 5, 12, 13, 14] i185b0)))
   (.seq (.reg [5] [⟨(some 39), .mv (.s 5), none, [], false⟩,
     ⟨(some 4), .mv (.s 39), none, [], true⟩])
   .ret)))) }
theorem tr185 : trF Tryz.prog h185 Tryz.f185 = some i185 := by kernel_rfl

-- ashlar/limbs.guess
def h186 : List (List Nat) := [[0, 1, 2, 3, 4], [0, 1, 2, 3, 4], [2, 3, 4, 11], [2, 3, 4, 12, 13], [2, 3, 4, 12, 13], [2, 3, 4, 12, 13], [2, 3, 4, 12, 13], [2, 3, 4, 12, 13], [12]]
def i186b0 : ICode :=
  (.seq (.seq (.reg [2, 3, 4, 12, 13] [⟨(some 28), .mv (.s 12), none, [], false⟩,
    ⟨(some 29), .bin .geq .num (.s 28) (.c (.int .u64 4294967296)), none, [], false⟩,
    ⟨(some 30), .mv (.s 29), none, [], false⟩,
    ⟨(some 31), .mv (.s 12), (some (30, false)), [], false⟩,
    ⟨(some 32), .mv (.s 4), (some (30, false)), [], false⟩,
    ⟨(some 33), .conv .u64 (.s 32), (some (30, false)), [], false⟩,
    ⟨(some 34), .bin .mul .num (.s 31) (.s 33), (some (30, false)), [], false⟩,
    ⟨(some 35), .mv (.s 13), (some (30, false)), [], false⟩,
    ⟨(some 36), .bin .shl .num (.s 35) (.c (.int .u64 32)), (some (30, false)), [], false⟩,
    ⟨(some 37), .mv (.s 2), (some (30, false)), [], false⟩,
    ⟨(some 38), .conv .u64 (.s 37), (some (30, false)), [], false⟩,
    ⟨(some 39), .bin .or .num (.s 36) (.s 38), (some (30, false)), [], false⟩,
    ⟨(some 40), .bin .gtr .num (.s 34) (.s 39), (some (30, false)), [], false⟩,
    ⟨(some 41), .pick (.s 30) (.c (.bool true)) (.s 40), none, [], false⟩])
  (.cond (.s 41)
   .skip
   (.exit 0)))
  (.block 1
   (.seq (.reg [2, 3, 4, 12, 13] [⟨(some 42), .mv (.s 12), none, [], false⟩,
     ⟨(some 43), .bin .sub .num (.s 42) (.c (.int .u64 1)), none, [], false⟩,
     ⟨(some 12), .mv (.s 43), none, [], true⟩])
   (.seq (.reg [2, 3, 4, 12, 13] [⟨(some 44), .mv (.s 13), none, [], false⟩,
     ⟨(some 45), .mv (.s 3), none, [], false⟩,
     ⟨(some 46), .conv .u64 (.s 45), none, [], false⟩,
     ⟨(some 47), .bin .add .num (.s 44) (.s 46), none, [], false⟩,
     ⟨(some 13), .mv (.s 47), none, [], true⟩])
   (.seq (.reg [2, 3, 4, 12, 13] [⟨(some 48), .mv (.s 13), none, [], false⟩,
     ⟨(some 49), .bin .geq .num (.s 48) (.c (.int .u64 4294967296)), none, [], false⟩])
   (.cond (.s 49)
    (.exit 0)
    .skip))))))
def i186 : IFn := { nparams := 5, ntmps := 51, results := [.tmp 10], body :=
  (.seq (.reg [0, 1, 2, 3, 4] [⟨(some 10), .mv (.c (.int .u64 0)), none, [], true⟩])
   (.seq (.reg [0, 1, 2, 3, 4] [⟨(some 14), .mv (.s 0), none, [], false⟩,
     ⟨(some 15), .conv .u64 (.s 14), none, [], false⟩,
     ⟨(some 16), .bin .shl .num (.s 15) (.c (.int .u64 32)), none, [], false⟩,
     ⟨(some 17), .mv (.s 1), none, [], false⟩,
     ⟨(some 18), .conv .u64 (.s 17), none, [], false⟩,
     ⟨(some 19), .bin .or .num (.s 16) (.s 18), none, [], false⟩,
     ⟨(some 11), .mv (.s 19), none, [], true⟩])
   (.seq (.draw [2, 3, 4, 11] [⟨(some 20), .mv (.s 11), none, [], false⟩,
     ⟨(some 21), .mv (.s 3), none, [], false⟩,
     ⟨(some 22), .conv .u64 (.s 21), none, [1], false⟩,
     ⟨(some 23), .bin .quo .num (.s 20) (.s 22), none, [0, 2], false⟩,
     ⟨(some 24), .mv (.s 11), none, [], false⟩,
     ⟨(some 25), .mv (.s 3), none, [], false⟩,
     ⟨(some 26), .conv .u64 (.s 25), none, [5], false⟩,
     ⟨(some 27), .bin .rem .num (.s 24) (.s 26), none, [4, 6], false⟩,
     ⟨(some 12), .mv (.s 23), none, [3, 0, 1, 2], true⟩,
     ⟨(some 13), .mv (.s 27), none, [7, 8, 0, 1, 2, 3, 4, 5, 6], true⟩])
   (.seq (.block 0
    (.loop [2, 3, 4, 12, 13] i186b0))
   (.seq (.reg [12] [⟨(some 50), .mv (.s 12), none, [], false⟩,
     ⟨(some 10), .mv (.s 50), none, [], true⟩])
   .ret))))) }
theorem tr186 : trF Tryz.prog h186 Tryz.f186 = some i186 := by kernel_rfl

-- ashlar/limbs.takes
def h187 : List (List Nat) := [[0, 1, 2], [0, 1, 2], [0, 1, 2, 7, 8], [0, 1, 2, 7, 8, 12, 13], [0, 1, 2, 7, 8, 12, 13], [0, 1, 2, 7, 8, 12, 13], [0, 1, 2, 7, 8, 9, 12, 13], [0, 1, 2, 7, 8, 9, 12, 13], [0, 1, 2, 7, 8, 9, 12, 13], [0, 1, 2, 7, 9, 10, 12, 13], [0, 1, 2, 7, 10, 12, 13], [0, 1, 2, 7, 8, 12, 13], [0, 1, 2, 7, 8, 12, 13], [8]]
def i187b0 : ICode :=
  (.seq (.reg [0, 1, 2, 7, 8, 12, 13] [⟨(some 14), .bin .lss .num (.s 13) (.s 12), none, [], false⟩])
  (.seq (.cond (.s 14)
   .skip
   (.exit 0))
  (.seq (.block 1
   (.seq (.reg [0, 1, 2, 7, 8, 12, 13] [⟨(some 15), .mv (.s 13), none, [], false⟩,
     ⟨(some 9), .mv (.s 15), none, [], true⟩])
   (.seq (.seq (.reg [0, 1, 2, 7, 8, 9, 12, 13] [⟨(some 16), .mv (.s 9), none, [], false⟩,
     ⟨(some 17), .mv (.s 1), none, [], false⟩,
     ⟨(some 18), .len false (.s 17), none, [], false⟩,
     ⟨(some 19), .bin .lss .num (.s 16) (.s 18), none, [], false⟩])
   (.cond (.s 19)
    (.reg [0, 1, 2, 7, 8, 9, 12, 13] [⟨(some 20), .mv (.s 7), none, [], false⟩,
      ⟨(some 21), .mv (.s 2), none, [], false⟩,
      ⟨(some 22), .mv (.s 1), none, [], false⟩,
      ⟨(some 23), .mv (.s 9), none, [], false⟩,
      ⟨(some 24), .idxA 1 (.s 22) (.s 23), none, [], false⟩,
      ⟨(some 25), .load false 1 (.s 24), none, [], false⟩,
      ⟨(some 26), .conv .u64 (.s 25), none, [], false⟩,
      ⟨(some 27), .bin .mul .num (.s 21) (.s 26), none, [], false⟩,
      ⟨(some 28), .bin .add .num (.s 20) (.s 27), none, [], false⟩,
      ⟨(some 7), .mv (.s 28), none, [], true⟩])
    .skip))
   (.seq (.reg [0, 1, 2, 7, 8, 9, 12, 13] [⟨(some 29), .mv (.s 0), none, [], false⟩,
     ⟨(some 30), .mv (.s 9), none, [], false⟩,
     ⟨(some 31), .idxA 1 (.s 29) (.s 30), none, [], false⟩,
     ⟨(some 32), .load false 1 (.s 31), none, [], false⟩,
     ⟨(some 33), .conv .u64 (.s 32), none, [], false⟩,
     ⟨(some 34), .mv (.s 7), none, [], false⟩,
     ⟨(some 35), .conv .u32 (.s 34), none, [], false⟩,
     ⟨(some 36), .conv .u64 (.s 35), none, [], false⟩,
     ⟨(some 37), .bin .sub .num (.s 33) (.s 36), none, [], false⟩,
     ⟨(some 38), .mv (.s 8), none, [], false⟩,
     ⟨(some 39), .bin .sub .num (.s 37) (.s 38), none, [], false⟩,
     ⟨(some 10), .mv (.s 39), none, [], true⟩])
   (.seq (.reg [0, 1, 2, 7, 9, 10, 12, 13] [⟨(some 40), .mv (.s 0), none, [], false⟩,
     ⟨(some 41), .mv (.s 9), none, [], false⟩,
     ⟨(some 42), .mv (.s 10), none, [], false⟩,
     ⟨(some 43), .conv .u32 (.s 42), none, [], false⟩,
     ⟨(some 44), .idxA 1 (.s 40) (.s 41), none, [], false⟩,
     ⟨none, .store 1 (.s 44) (.s 43), none, [], false⟩])
   (.seq (.reg [0, 1, 2, 7, 10, 12, 13] [⟨(some 45), .mv (.s 10), none, [], false⟩,
     ⟨(some 46), .bin .shr .num (.s 45) (.c (.int .u64 63)), none, [], false⟩,
     ⟨(some 8), .mv (.s 46), none, [], true⟩])
   (.reg [0, 1, 2, 7, 8, 12, 13] [⟨(some 47), .mv (.s 7), none, [], false⟩,
     ⟨(some 48), .bin .shr .num (.s 47) (.c (.int .u64 32)), none, [], false⟩,
     ⟨(some 7), .mv (.s 48), none, [], true⟩])))))))
  (.reg [0, 1, 2, 7, 8, 12, 13] [⟨(some 49), .bin .add .num (.s 13) (.c (.int .i64 1)), none, [], false⟩,
    ⟨(some 13), .mv (.s 49), none, [], false⟩]))))
def i187 : IFn := { nparams := 3, ntmps := 52, results := [.tmp 6], body :=
  (.seq (.reg [0, 1, 2] [⟨(some 6), .mv (.c (.bool false)), none, [], true⟩])
   (.seq (.reg [0, 1, 2] [⟨(some 7), .mv (.c (.int .u64 0)), none, [], true⟩,
     ⟨(some 8), .mv (.c (.int .u64 0)), none, [], true⟩])
   (.seq (.seq (.reg [0, 1, 2, 7, 8] [⟨(some 11), .mv (.s 0), none, [], false⟩,
     ⟨(some 12), .len false (.s 11), none, [], false⟩,
     ⟨(some 13), .mv (.c (.int .i64 0)), none, [], false⟩])
   (.block 0
    (.loop [0, 1, 2, 7, 8, 12, 13] i187b0)))
   (.seq (.reg [8] [⟨(some 50), .mv (.s 8), none, [], false⟩,
     ⟨(some 51), .bin .gtr .num (.s 50) (.c (.int .u64 0)), none, [], false⟩,
     ⟨(some 6), .mv (.s 51), none, [], true⟩])
   .ret)))) }
theorem tr187 : trF Tryz.prog h187 Tryz.f187 = some i187 := by kernel_rfl

-- ashlar/limbs.gives
def h188 : List (List Nat) := [[0, 1], [0, 1, 4], [0, 1, 4, 7, 8], [0, 1, 4, 7, 8], [0, 1, 4, 7, 8], [0, 1, 4, 5, 7, 8], [0, 1, 4, 5, 7, 8], [0, 1, 4, 5, 7, 8], [0, 1, 4, 5, 7, 8], [0, 1, 4, 7, 8], [0, 1, 4, 7, 8]]
def i188b0 : ICode :=
  (.seq (.reg [0, 1, 4, 7, 8] [⟨(some 9), .bin .lss .num (.s 8) (.s 7), none, [], false⟩])
  (.seq (.cond (.s 9)
   .skip
   (.exit 0))
  (.seq (.block 1
   (.seq (.reg [0, 1, 4, 7, 8] [⟨(some 10), .mv (.s 8), none, [], false⟩,
     ⟨(some 5), .mv (.s 10), none, [], true⟩])
   (.seq (.reg [0, 1, 4, 5, 7, 8] [⟨(some 11), .mv (.s 4), none, [], false⟩,
     ⟨(some 12), .mv (.s 0), none, [], false⟩,
     ⟨(some 13), .mv (.s 5), none, [], false⟩,
     ⟨(some 14), .idxA 1 (.s 12) (.s 13), none, [], false⟩,
     ⟨(some 15), .load false 1 (.s 14), none, [], false⟩,
     ⟨(some 16), .conv .u64 (.s 15), none, [], false⟩,
     ⟨(some 17), .bin .add .num (.s 11) (.s 16), none, [], false⟩,
     ⟨(some 4), .mv (.s 17), none, [], true⟩])
   (.seq (.seq (.reg [0, 1, 4, 5, 7, 8] [⟨(some 18), .mv (.s 5), none, [], false⟩,
     ⟨(some 19), .mv (.s 1), none, [], false⟩,
     ⟨(some 20), .len false (.s 19), none, [], false⟩,
     ⟨(some 21), .bin .lss .num (.s 18) (.s 20), none, [], false⟩])
   (.cond (.s 21)
    (.reg [0, 1, 4, 5, 7, 8] [⟨(some 22), .mv (.s 4), none, [], false⟩,
      ⟨(some 23), .mv (.s 1), none, [], false⟩,
      ⟨(some 24), .mv (.s 5), none, [], false⟩,
      ⟨(some 25), .idxA 1 (.s 23) (.s 24), none, [], false⟩,
      ⟨(some 26), .load false 1 (.s 25), none, [], false⟩,
      ⟨(some 27), .conv .u64 (.s 26), none, [], false⟩,
      ⟨(some 28), .bin .add .num (.s 22) (.s 27), none, [], false⟩,
      ⟨(some 4), .mv (.s 28), none, [], true⟩])
    .skip))
   (.seq (.reg [0, 1, 4, 5, 7, 8] [⟨(some 29), .mv (.s 0), none, [], false⟩,
     ⟨(some 30), .mv (.s 5), none, [], false⟩,
     ⟨(some 31), .mv (.s 4), none, [], false⟩,
     ⟨(some 32), .conv .u32 (.s 31), none, [], false⟩,
     ⟨(some 33), .idxA 1 (.s 29) (.s 30), none, [], false⟩,
     ⟨none, .store 1 (.s 33) (.s 32), none, [], false⟩])
   (.reg [0, 1, 4, 7, 8] [⟨(some 34), .mv (.s 4), none, [], false⟩,
     ⟨(some 35), .bin .shr .num (.s 34) (.c (.int .u64 32)), none, [], false⟩,
     ⟨(some 4), .mv (.s 35), none, [], true⟩]))))))
  (.reg [0, 1, 4, 7, 8] [⟨(some 36), .bin .add .num (.s 8) (.c (.int .i64 1)), none, [], false⟩,
    ⟨(some 8), .mv (.s 36), none, [], false⟩]))))
def i188 : IFn := { nparams := 2, ntmps := 37, results := [], body :=
  (.seq (.reg [0, 1] [⟨(some 4), .mv (.c (.int .u64 0)), none, [], true⟩])
   (.seq (.reg [0, 1, 4] [⟨(some 6), .mv (.s 0), none, [], false⟩,
     ⟨(some 7), .len false (.s 6), none, [], false⟩,
     ⟨(some 8), .mv (.c (.int .i64 0)), none, [], false⟩])
   (.block 0
    (.loop [0, 1, 4, 7, 8] i188b0)))) }
theorem tr188 : trF Tryz.prog h188 Tryz.f188 = some i188 := by kernel_rfl

-- ashlar/limbs.right
def h189 : List (List Nat) := [[0, 1], [0, 1], [0, 1, 5], [0, 1, 5, 11, 12], [0, 1, 5, 11, 12], [0, 1, 5, 11, 12], [0, 1, 5, 6, 11, 12], [0, 1, 5, 6, 11, 12], [0, 1, 5, 6, 11, 12], [0, 1, 5, 11, 12], [5]]
def i189b0 : ICode :=
  (.seq (.reg [0, 1, 5, 11, 12] [⟨(some 13), .bin .lss .num (.s 12) (.s 11), none, [], false⟩])
  (.seq (.cond (.s 13)
   .skip
   (.exit 0))
  (.seq (.block 1
   (.seq (.reg [0, 1, 5, 11, 12] [⟨(some 14), .mv (.s 12), none, [], false⟩,
     ⟨(some 6), .mv (.s 14), none, [], true⟩])
   (.seq (.reg [0, 1, 5, 6, 11, 12] [⟨(some 15), .mv (.s 5), none, [], false⟩,
     ⟨(some 16), .mv (.s 6), none, [], false⟩,
     ⟨(some 17), .mv (.s 0), none, [], false⟩,
     ⟨(some 18), .mv (.s 6), none, [], false⟩,
     ⟨(some 19), .idxA 1 (.s 17) (.s 18), none, [], false⟩,
     ⟨(some 20), .load false 1 (.s 19), none, [], false⟩,
     ⟨(some 21), .mv (.s 1), none, [], false⟩,
     ⟨(some 22), .bin .shr .num (.s 20) (.s 21), none, [], false⟩,
     ⟨(some 23), .idxA 1 (.s 15) (.s 16), none, [], false⟩,
     ⟨none, .store 1 (.s 23) (.s 22), none, [], false⟩])
   (.seq (.reg [0, 1, 5, 6, 11, 12] [⟨(some 24), .mv (.s 6), none, [], false⟩,
     ⟨(some 25), .bin .add .num (.s 24) (.c (.int .i64 1)), none, [], false⟩,
     ⟨(some 26), .mv (.s 0), none, [], false⟩,
     ⟨(some 27), .len false (.s 26), none, [], false⟩,
     ⟨(some 28), .bin .lss .num (.s 25) (.s 27), none, [], false⟩])
   (.cond (.s 28)
    (.draw [0, 1, 5, 6, 11, 12] [⟨(some 29), .mv (.s 5), none, [], false⟩,
      ⟨(some 30), .mv (.s 6), none, [], false⟩,
      ⟨(some 31), .idxA 1 (.s 29) (.s 30), none, [0, 1], false⟩,
      ⟨(some 32), .load false 1 (.s 31), none, [2], false⟩,
      ⟨(some 33), .mv (.s 0), none, [], false⟩,
      ⟨(some 34), .mv (.s 6), none, [], false⟩,
      ⟨(some 35), .bin .add .num (.s 34) (.c (.int .i64 1)), none, [5], false⟩,
      ⟨(some 36), .idxA 1 (.s 33) (.s 35), none, [4, 6], false⟩,
      ⟨(some 37), .load false 1 (.s 36), none, [7], false⟩,
      ⟨(some 38), .conv .u64 (.s 37), none, [8], false⟩,
      ⟨(some 39), .bin .shl .num (.s 38) (.c (.int .u64 32)), none, [9], false⟩,
      ⟨(some 40), .mv (.s 1), none, [], false⟩,
      ⟨(some 41), .bin .shr .num (.s 39) (.s 40), none, [10, 11], false⟩,
      ⟨(some 42), .conv .u32 (.s 41), none, [12], false⟩,
      ⟨(some 43), .bin .or .num (.s 32) (.s 42), none, [3, 13], false⟩,
      ⟨(some 44), .idxA 1 (.s 29) (.s 30), none, [0, 1, 2, 3, 4, 5, 6, 7, 8, 9, 10, 11, 12, 13, 14], false⟩,
      ⟨none, .store 1 (.s 44) (.s 43), none, [15, 14, 0, 1, 2, 3, 4, 5, 6, 7, 8, 9, 10, 11, 12, 13], false⟩])
    .skip)))))
  (.reg [0, 1, 5, 11, 12] [⟨(some 45), .bin .add .num (.s 12) (.c (.int .i64 1)), none, [], false⟩,
    ⟨(some 12), .mv (.s 45), none, [], false⟩]))))
def i189 : IFn := { nparams := 2, ntmps := 48, results := [.tmp 4], body :=
  (.seq (.reg [0, 1] [⟨(some 4), .mv (.c (.sl .nil [])), none, [], true⟩])
   (.seq (.reg [0, 1] [⟨(some 7), .mv (.s 0), none, [], false⟩,
     ⟨(some 8), .len false (.s 7), none, [], false⟩,
     ⟨(some 9), .mksl 1 4 (.int .u32 0) (.s 8) (.s 8), none, [], false⟩,
     ⟨(some 5), .mv (.s 9), none, [], true⟩])
   (.seq (.seq (.reg [0, 1, 5] [⟨(some 10), .mv (.s 0), none, [], false⟩,
     ⟨(some 11), .len false (.s 10), none, [], false⟩,
     ⟨(some 12), .mv (.c (.int .i64 0)), none, [], false⟩])
   (.block 0
    (.loop [0, 1, 5, 11, 12] i189b0)))
   (.seq (.reg [5] [⟨(some 46), .mv (.s 5), none, [], false⟩,
     ⟨(some 47), .call (.c (.fn (.func 156) [] [])) [(.s 46)], none, [], false⟩,
     ⟨(some 4), .mv (.s 47), none, [], true⟩])
   .ret)))) }
theorem tr189 : trF Tryz.prog h189 Tryz.f189 = some i189 := by kernel_rfl

-- ashlar/upoly.over$1
def h190 : List (List Nat) := [[0, 1], [1, 2, 3], [3, 4]]
def i190 : IFn := { nparams := 2, ntmps := 15, results := [.cell 3 true 2], body :=
  (.seq (.reg [0, 1] [⟨(some 2), .box 2 (.s 0), none, [], false⟩,
     ⟨(some 3), .alloc 2 (.agg [(.bool false), (.sl .nil [])]), none, [], false⟩])
   (.seq (.reg [1, 2, 3] [⟨(some 8), .load true 2 (.s 2), none, [], false⟩,
     ⟨(some 9), .load true 2 (.s 1), none, [], false⟩,
     ⟨(some 10), .call (.c (.fn (.func 171) [] [])) [(.s 8), (.s 9)], none, [], false⟩,
     ⟨(some 7), .mv (.s 10), none, [], false⟩,
     ⟨(some 11), .extr (.s 7) 0, none, [], false⟩,
     ⟨(some 12), .extr (.s 7) 1, none, [], false⟩,
     ⟨(some 13), .extr (.s 7) 2, none, [], false⟩,
     ⟨(some 4), .alloc 2 (.agg [(.bool false), (.sl .nil [])]), none, [], false⟩,
     ⟨(some 5), .alloc 2 (.agg [(.bool false), (.sl .nil [])]), none, [], false⟩,
     ⟨none, .store 2 (.s 4) (.s 11), none, [], false⟩,
     ⟨none, .store 2 (.s 5) (.s 12), none, [], false⟩,
     ⟨(some 6), .mv (.s 13), none, [], true⟩])
   (.seq (.reg [3, 4] [⟨(some 14), .load true 2 (.s 4), none, [], false⟩,
     ⟨none, .store 2 (.s 3) (.s 14), none, [], false⟩])
   .ret))) }
theorem tr190 : trF Tryz.prog h190 Tryz.f190 = some i190 := by kernel_rfl

-- ashlar/zprime.Is
def h191 : List (List Nat) := [[0], [0], [0, 3], [0, 3], [0, 3], [], [0, 3], [0]]
def i191b0 : ICode :=
  (.seq (.seq (.reg [0, 3] [⟨(some 4), .mv (.s 3), none, [], false⟩,
    ⟨(some 5), .mv (.s 3), none, [], false⟩,
    ⟨(some 6), .bin .mul .num (.s 4) (.s 5), none, [], false⟩,
    ⟨(some 7), .mv (.s 0), none, [], false⟩,
    ⟨(some 8), .bin .leq .num (.s 6) (.s 7), none, [], false⟩])
  (.cond (.s 8)
   .skip
   (.exit 0)))
  (.seq (.block 1
   (.seq (.reg [0, 3] [⟨(some 11), .mv (.s 0), none, [], false⟩,
     ⟨(some 12), .mv (.s 3), none, [], false⟩,
     ⟨(some 13), .bin .rem .num (.s 11) (.s 12), none, [], false⟩,
     ⟨(some 14), .bin .eql .num (.s 13) (.c (.int .i64 0)), none, [], false⟩])
   (.cond (.s 14)
    (.seq (.reg [] [⟨(some 2), .mv (.c (.bool false)), none, [], true⟩])
    .ret)
    .skip)))
  (.reg [0, 3] [⟨(some 9), .mv (.s 3), none, [], false⟩,
    ⟨(some 10), .bin .add .num (.s 9) (.c (.int .i64 1)), none, [], false⟩,
    ⟨(some 3), .mv (.s 10), none, [], true⟩])))
def i191 : IFn := { nparams := 1, ntmps := 17, results := [.tmp 2], body :=
  (.seq (.reg [0] [⟨(some 2), .mv (.c (.bool false)), none, [], true⟩])
   (.seq (.seq (.reg [0] [⟨(some 3), .mv (.c (.int .i64 2)), none, [], true⟩])
   (.block 0
    (.loop [0, 3] i191b0)))
   (.seq (.reg [0] [⟨(some 15), .mv (.s 0), none, [], false⟩,
     ⟨(some 16), .bin .gtr .num (.s 15) (.c (.int .i64 1)), none, [], false⟩,
     ⟨(some 2), .mv (.s 16), none, [], true⟩])
   .ret))) }
theorem tr191 : trF Tryz.prog h191 Tryz.f191 = some i191 := by kernel_rfl

-- ashlar/zprime.Cut
def h192 : List (List Nat) := [[0], [0], [0], [0], [0]]
def i192b0 : ICode :=
  (.seq (.seq (.reg [0] [⟨(some 3), .mv (.s 0), none, [], false⟩,
    ⟨(some 4), .len false (.s 3), none, [], false⟩,
    ⟨(some 5), .bin .gtr .num (.s 4) (.c (.int .i64 0)), none, [], false⟩,
    ⟨(some 6), .mv (.s 5), none, [], false⟩,
    ⟨(some 7), .mv (.s 0), (some (6, true)), [], false⟩,
    ⟨(some 8), .mv (.s 0), (some (6, true)), [], false⟩,
    ⟨(some 9), .len false (.s 8), (some (6, true)), [], false⟩,
    ⟨(some 10), .bin .sub .num (.s 9) (.c (.int .i64 1)), (some (6, true)), [], false⟩,
    ⟨(some 11), .idxA 1 (.s 7) (.s 10), (some (6, true)), [], false⟩,
    ⟨(some 12), .load false 1 (.s 11), (some (6, true)), [], false⟩,
    ⟨(some 13), .bin .eql .num (.s 12) (.c (.int .i64 0)), (some (6, true)), [], false⟩,
    ⟨(some 14), .pick (.s 6) (.s 13) (.c (.bool false)), none, [], false⟩])
  (.cond (.s 14)
   .skip
   (.exit 0)))
  (.block 1
   (.reg [0] [⟨(some 15), .mv (.s 0), none, [], false⟩,
     ⟨(some 16), .mv (.s 0), none, [], false⟩,
     ⟨(some 17), .len false (.s 16), none, [], false⟩,
     ⟨(some 18), .bin .sub .num (.s 17) (.c (.int .i64 1)), none, [], false⟩,
     ⟨(some 19), .slice 1 (.s 15) none (some (.s 18)) none, none, [], false⟩,
     ⟨(some 0), .mv (.s 19), none, [], true⟩])))
def i192 : IFn := { nparams := 1, ntmps := 21, results := [.tmp 2], body :=
  (.seq (.reg [0] [⟨(some 2), .mv (.c (.sl .nil [])), none, [], true⟩])
   (.seq (.block 0
    (.loop [0] i192b0))
   (.seq (.reg [0] [⟨(some 20), .mv (.s 0), none, [], false⟩,
     ⟨(some 2), .mv (.s 20), none, [], true⟩])
   .ret))) }
theorem tr192 : trF Tryz.prog h192 Tryz.f192 = some i192 := by kernel_rfl

-- ashlar/zprime.Rest
def h193 : List (List Nat) := [[0, 1, 2], [0, 1, 2], [0, 1, 2, 7], [0, 1, 2, 7], [0, 1, 2, 7], [0, 1, 2, 7, 8], [0, 1, 2, 7, 8, 9], [0, 1, 2, 7, 8, 9, 39, 40, 41], [0, 1, 2, 7, 8, 9, 39, 40, 41], [0, 1, 2, 7, 8, 9, 39, 40, 41], [0, 1, 2, 7, 8, 9, 10, 11, 39, 40, 41], [0, 1, 2, 7, 8, 9, 39, 40, 41], [0, 1, 2, 7], [0]]
def i193b0 : ICode :=
  (.seq (.reg [0, 1, 2, 7, 8, 9, 39, 40, 41] [⟨(some 42), .bin .lss .num (.s 41) (.s 40), none, [], false⟩])
  (.seq (.cond (.s 42)
   .skip
   (.exit 2))
  (.seq (.block 3
   (.seq (.reg [0, 1, 2, 7, 8, 9, 39, 40, 41] [⟨(some 43), .mv (.s 41), none, [], false⟩,
     ⟨(some 44), .idxA 1 (.s 39) (.s 41), none, [], false⟩,
     ⟨(some 45), .load false 1 (.s 44), none, [], false⟩,
     ⟨(some 10), .mv (.s 43), none, [], true⟩,
     ⟨(some 11), .mv (.s 45), none, [], true⟩])
   (.draw [0, 1, 2, 7, 8, 9, 10, 11, 39, 40, 41] [⟨(some 46), .mv (.s 0), none, [], false⟩,
     ⟨(some 47), .mv (.s 9), none, [], false⟩,
     ⟨(some 48), .mv (.s 10), none, [], false⟩,
     ⟨(some 49), .bin .add .num (.s 47) (.s 48), none, [1, 2], false⟩,
     ⟨(some 50), .mv (.s 0), none, [], false⟩,
     ⟨(some 51), .mv (.s 9), none, [], false⟩,
     ⟨(some 52), .mv (.s 10), none, [], false⟩,
     ⟨(some 53), .bin .add .num (.s 51) (.s 52), none, [5, 6], false⟩,
     ⟨(some 54), .idxA 1 (.s 50) (.s 53), none, [4, 7], false⟩,
     ⟨(some 55), .load false 1 (.s 54), none, [8], false⟩,
     ⟨(some 56), .mv (.s 2), none, [], false⟩,
     ⟨(some 57), .bin .add .num (.s 55) (.s 56), none, [9, 10], false⟩,
     ⟨(some 58), .mv (.s 8), none, [], false⟩,
     ⟨(some 59), .mv (.s 11), none, [], false⟩,
     ⟨(some 60), .mv (.s 2), none, [], false⟩,
     ⟨(some 61), .call (.c (.fn (.func 169) [] [])) [(.s 58), (.s 59), (.s 60)], none, [12, 13, 14], false⟩,
     ⟨(some 62), .bin .sub .num (.s 57) (.s 61), none, [11, 15], false⟩,
     ⟨(some 63), .mv (.s 2), none, [], false⟩,
     ⟨(some 64), .bin .rem .num (.s 62) (.s 63), none, [16, 17], false⟩,
     ⟨(some 65), .idxA 1 (.s 46) (.s 49), none, [0, 3, 1, 2, 4, 5, 6, 7, 8, 9, 10, 11, 12, 13, 14, 15, 16, 17, 18], false⟩,
     ⟨none, .store 1 (.s 65) (.s 64), none, [19, 18, 15, 0, 1, 2, 3, 4, 5, 6, 7, 8, 9, 10, 11, 12, 13, 14, 16, 17], false⟩])))
  (.reg [0, 1, 2, 7, 8, 9, 39, 40, 41] [⟨(some 66), .bin .add .num (.s 41) (.c (.int .i64 1)), none, [], false⟩,
    ⟨(some 41), .mv (.s 66), none, [], false⟩]))))
def i193b1 : ICode :=
  (.seq (.seq (.reg [0, 1, 2, 7] [⟨(some 20), .mv (.s 0), none, [], false⟩,
    ⟨(some 21), .len false (.s 20), none, [], false⟩,
    ⟨(some 22), .mv (.s 1), none, [], false⟩,
    ⟨(some 23), .len false (.s 22), none, [], false⟩,
    ⟨(some 24), .bin .geq .num (.s 21) (.s 23), none, [], false⟩])
  (.cond (.s 24)
   .skip
   (.exit 0)))
  (.block 1
   (.seq (.reg [0, 1, 2, 7] [⟨(some 25), .mv (.s 0), none, [], false⟩,
     ⟨(some 26), .mv (.s 0), none, [], false⟩,
     ⟨(some 27), .len false (.s 26), none, [], false⟩,
     ⟨(some 28), .bin .sub .num (.s 27) (.c (.int .i64 1)), none, [], false⟩,
     ⟨(some 29), .idxA 1 (.s 25) (.s 28), none, [], false⟩,
     ⟨(some 30), .load false 1 (.s 29), none, [], false⟩,
     ⟨(some 31), .mv (.s 7), none, [], false⟩,
     ⟨(some 32), .mv (.s 2), none, [], false⟩,
     ⟨(some 33), .call (.c (.fn (.func 169) [] [])) [(.s 30), (.s 31), (.s 32)], none, [], false⟩,
     ⟨(some 8), .mv (.s 33), none, [], true⟩])
   (.seq (.reg [0, 1, 2, 7, 8] [⟨(some 34), .mv (.s 0), none, [], false⟩,
     ⟨(some 35), .len false (.s 34), none, [], false⟩,
     ⟨(some 36), .mv (.s 1), none, [], false⟩,
     ⟨(some 37), .len false (.s 36), none, [], false⟩,
     ⟨(some 38), .bin .sub .num (.s 35) (.s 37), none, [], false⟩,
     ⟨(some 9), .mv (.s 38), none, [], true⟩])
   (.seq (.seq (.reg [0, 1, 2, 7, 8, 9] [⟨(some 39), .mv (.s 1), none, [], false⟩,
     ⟨(some 40), .len false (.s 39), none, [], false⟩,
     ⟨(some 41), .mv (.c (.int .i64 0)), none, [], false⟩])
   (.block 2
    (.loop [0, 1, 2, 7, 8, 9, 39, 40, 41] i193b0)))
   (.reg [0, 1, 2, 7] [⟨(some 67), .mv (.s 0), none, [], false⟩,
     ⟨(some 68), .call (.c (.fn (.func 192) [] [])) [(.s 67)], none, [], false⟩,
     ⟨(some 0), .mv (.s 68), none, [], true⟩]))))))
def i193 : IFn := { nparams := 3, ntmps := 70, results := [.tmp 6], body :=
  (.seq (.reg [0, 1, 2] [⟨(some 6), .mv (.c (.sl .nil [])), none, [], true⟩])
   (.seq (.reg [0, 1, 2] [⟨(some 12), .mv (.s 1), none, [], false⟩,
     ⟨(some 13), .mv (.s 1), none, [], false⟩,
     ⟨(some 14), .len false (.s 13), none, [], false⟩,
     ⟨(some 15), .bin .sub .num (.s 14) (.c (.int .i64 1)), none, [], false⟩,
     ⟨(some 16), .idxA 1 (.s 12) (.s 15), none, [], false⟩,
     ⟨(some 17), .load false 1 (.s 16), none, [], false⟩,
     ⟨(some 18), .mv (.s 2), none, [], false⟩,
     ⟨(some 19), .call (.c (.fn (.func 194) [] [])) [(.s 17), (.s 18)], none, [], false⟩,
     ⟨(some 7), .mv (.s 19), none, [], true⟩])
   (.seq (.block 0
    (.loop [0, 1, 2, 7] i193b1))
   (.seq (.reg [0] [⟨(some 69), .mv (.s 0), none, [], false⟩,
     ⟨(some 6), .mv (.s 69), none, [], true⟩])
   .ret)))) }
theorem tr193 : trF Tryz.prog h193 Tryz.f193 = some i193 := by kernel_rfl

-- ashlar/zprime.Inverse
def h194 : List (List Nat) := [[0, 1], [0, 1], [0, 1, 5], [0, 1, 5, 6], [0, 1, 5, 6], [0, 1, 5, 6], [0, 1, 5, 6], [0, 1, 5, 6], [0, 1, 5, 6], [1, 5]]
def i194b0 : ICode :=
  (.seq (.seq (.reg [0, 1, 5, 6] [⟨(some 9), .mv (.s 6), none, [], false⟩,
    ⟨(some 10), .bin .gtr .num (.s 9) (.c (.int .i64 0)), none, [], false⟩])
  (.cond (.s 10)
   .skip
   (.exit 0)))
  (.seq (.block 1
   (.seq (.seq (.reg [0, 1, 5, 6] [⟨(some 13), .mv (.s 6), none, [], false⟩,
     ⟨(some 14), .bin .and .num (.s 13) (.c (.int .i64 1)), none, [], false⟩,
     ⟨(some 15), .bin .eql .num (.s 14) (.c (.int .i64 1)), none, [], false⟩])
   (.cond (.s 15)
    (.reg [0, 1, 5, 6] [⟨(some 16), .mv (.s 5), none, [], false⟩,
      ⟨(some 17), .mv (.s 0), none, [], false⟩,
      ⟨(some 18), .mv (.s 1), none, [], false⟩,
      ⟨(some 19), .call (.c (.fn (.func 169) [] [])) [(.s 16), (.s 17), (.s 18)], none, [], false⟩,
      ⟨(some 5), .mv (.s 19), none, [], true⟩])
    .skip))
   (.reg [0, 1, 5, 6] [⟨(some 20), .mv (.s 0), none, [], false⟩,
     ⟨(some 21), .mv (.s 0), none, [], false⟩,
     ⟨(some 22), .mv (.s 1), none, [], false⟩,
     ⟨(some 23), .call (.c (.fn (.func 169) [] [])) [(.s 20), (.s 21), (.s 22)], none, [], false⟩,
     ⟨(some 0), .mv (.s 23), none, [], true⟩])))
  (.reg [0, 1, 5, 6] [⟨(some 11), .mv (.s 6), none, [], false⟩,
    ⟨(some 12), .bin .shr .num (.s 11) (.c (.int .u64 1)), none, [], false⟩,
    ⟨(some 6), .mv (.s 12), none, [], true⟩])))
def i194 : IFn := { nparams := 2, ntmps := 27, results := [.tmp 4], body :=
  (.seq (.reg [0, 1] [⟨(some 4), .mv (.c (.int .i64 0)), none, [], true⟩])
   (.seq (.reg [0, 1] [⟨(some 5), .mv (.c (.int .i64 1)), none, [], true⟩])
   (.seq (.seq (.reg [0, 1, 5] [⟨(some 7), .mv (.s 1), none, [], false⟩,
     ⟨(some 8), .bin .sub .num (.s 7) (.c (.int .i64 2)), none, [], false⟩,
     ⟨(some 6), .mv (.s 8), none, [], true⟩])
   (.block 0
    (.loop [0, 1, 5, 6] i194b0)))
   (.seq (.reg [1, 5] [⟨(some 24), .mv (.s 5), none, [], false⟩,
     ⟨(some 25), .mv (.s 1), none, [], false⟩,
     ⟨(some 26), .bin .rem .num (.s 24) (.s 25), none, [], false⟩,
     ⟨(some 4), .mv (.s 26), none, [], true⟩])
   .ret)))) }
theorem tr194 : trF Tryz.prog h194 Tryz.f194 = some i194 := by kernel_rfl

-- ashlar/limbs.Cmp
def h195 : List (List Nat) := [[0, 1], [2, 3], [2, 3, 5, 6], [], [2, 3, 5, 6], [], [2, 3, 5]]
def i195 : IFn := { nparams := 2, ntmps := 26, results := [.tmp 4], body :=
  (.seq (.reg [0, 1] [⟨(some 2), .box 2 (.s 0), none, [], false⟩,
     ⟨(some 3), .box 2 (.s 1), none, [], false⟩,
     ⟨(some 4), .mv (.c (.int .i64 0)), none, [], true⟩])
   (.seq (.draw [2, 3] [⟨(some 7), .load true 2 (.s 2), none, [], false⟩,
     ⟨(some 8), .call (.c (.fn (.func 69) [] [])) [(.s 7)], none, [0], false⟩,
     ⟨(some 9), .load true 2 (.s 3), none, [], false⟩,
     ⟨(some 10), .call (.c (.fn (.func 69) [] [])) [(.s 9)], none, [2, 1], false⟩,
     ⟨(some 5), .mv (.s 8), none, [1, 3, 0], true⟩,
     ⟨(some 6), .mv (.s 10), none, [3, 4, 0, 1, 2], true⟩])
   (.seq (.block 0
    (.seq (.reg [2, 3, 5, 6] [⟨(some 12), .mv (.s 5), none, [], false⟩,
      ⟨(some 13), .mv (.s 6), none, [], false⟩,
      ⟨(some 14), .bin .lss .num (.s 12) (.s 13), none, [], false⟩,
      ⟨(some 11), .mv (.s 14), none, [], true⟩])
    (.cond (.s 11)
     (.seq (.reg [] [⟨(some 4), .mv (.c (.int .i64 (-1))), none, [], true⟩])
     .ret)
     (.seq (.reg [2, 3, 5, 6] [⟨(some 16), .mv (.s 5), none, [], false⟩,
       ⟨(some 17), .mv (.s 6), none, [], false⟩,
       ⟨(some 18), .bin .gtr .num (.s 16) (.s 17), none, [], false⟩,
       ⟨(some 15), .mv (.s 18), none, [], true⟩])
     (.cond (.s 15)
      (.seq (.reg [] [⟨(some 4), .mv (.c (.int .i64 1)), none, [], true⟩])
      .ret)
      .skip)))))
   (.seq (.draw [2, 3, 5] [⟨(some 19), .mv (.s 5), none, [], false⟩,
     ⟨(some 20), .load true 2 (.s 2), none, [], false⟩,
     ⟨(some 21), .call (.c (.fn (.func 115) [] [])) [(.s 20)], none, [1], false⟩,
     ⟨(some 22), .load true 2 (.s 3), none, [], false⟩,
     ⟨(some 23), .call (.c (.fn (.func 115) [] [])) [(.s 22)], none, [3, 2], false⟩,
     ⟨(some 24), .call (.c (.fn (.func 159) [] [])) [(.s 21), (.s 23)], none, [2, 4], false⟩,
     ⟨(some 25), .bin .mul .num (.s 19) (.s 24), none, [0, 5], false⟩,
     ⟨(some 4), .mv (.s 25), none, [6, 5, 0, 1, 2, 3, 4], true⟩])
   .ret)))) }
theorem tr195 : trF Tryz.prog h195 Tryz.f195 = some i195 := by kernel_rfl

-- ashlar/limbs.school
def h196 : List (List Nat) := [[0, 1], [0, 1], [0, 1, 5], [1, 5, 17, 18, 19], [1, 5, 17, 18, 19], [1, 5, 17, 18, 19], [1, 5, 6, 7, 17, 18, 19], [1, 5, 6, 7, 8, 17, 18, 19], [1, 5, 6, 7, 8, 17, 18, 19, 24, 25, 26], [1, 5, 6, 7, 8, 17, 18, 19, 24, 25, 26], [1, 5, 6, 7, 8, 17, 18, 19, 24, 25, 26], [1, 5, 6, 7, 8, 9, 10, 17, 18, 19, 24, 25, 26], [1, 5, 6, 7, 8, 9, 17, 18, 19, 24, 25, 26], [1, 5, 6, 7, 8, 17, 18, 19, 24, 25, 26], [1, 5, 6, 7, 8, 17, 18, 19, 24, 25, 26], [1, 5, 6, 8, 17, 18, 19], [1, 5, 17, 18, 19], [5]]
def i196b0 : ICode :=
  (.seq (.reg [1, 5, 6, 7, 8, 17, 18, 19, 24, 25, 26] [⟨(some 27), .bin .lss .num (.s 26) (.s 25), none, [], false⟩])
  (.seq (.cond (.s 27)
   .skip
   (.exit 2))
  (.seq (.block 3
   (.seq (.reg [1, 5, 6, 7, 8, 17, 18, 19, 24, 25, 26] [⟨(some 28), .mv (.s 26), none, [], false⟩,
     ⟨(some 29), .idxA 1 (.s 24) (.s 26), none, [], false⟩,
     ⟨(some 30), .load false 1 (.s 29), none, [], false⟩,
     ⟨(some 9), .mv (.s 28), none, [], true⟩,
     ⟨(some 10), .mv (.s 30), none, [], true⟩])
   (.seq (.reg [1, 5, 6, 7, 8, 9, 10, 17, 18, 19, 24, 25, 26] [⟨(some 31), .mv (.s 8), none, [], false⟩,
     ⟨(some 32), .mv (.s 7), none, [], false⟩,
     ⟨(some 33), .conv .u64 (.s 32), none, [], false⟩,
     ⟨(some 34), .mv (.s 10), none, [], false⟩,
     ⟨(some 35), .conv .u64 (.s 34), none, [], false⟩,
     ⟨(some 36), .bin .mul .num (.s 33) (.s 35), none, [], false⟩,
     ⟨(some 37), .mv (.s 5), none, [], false⟩,
     ⟨(some 38), .mv (.s 6), none, [], false⟩,
     ⟨(some 39), .mv (.s 9), none, [], false⟩,
     ⟨(some 40), .bin .add .num (.s 38) (.s 39), none, [], false⟩,
     ⟨(some 41), .idxA 1 (.s 37) (.s 40), none, [], false⟩,
     ⟨(some 42), .load false 1 (.s 41), none, [], false⟩,
     ⟨(some 43), .conv .u64 (.s 42), none, [], false⟩,
     ⟨(some 44), .bin .add .num (.s 36) (.s 43), none, [], false⟩,
     ⟨(some 45), .bin .add .num (.s 31) (.s 44), none, [], false⟩,
     ⟨(some 8), .mv (.s 45), none, [], true⟩])
   (.seq (.reg [1, 5, 6, 7, 8, 9, 17, 18, 19, 24, 25, 26] [⟨(some 46), .mv (.s 5), none, [], false⟩,
     ⟨(some 47), .mv (.s 6), none, [], false⟩,
     ⟨(some 48), .mv (.s 9), none, [], false⟩,
     ⟨(some 49), .bin .add .num (.s 47) (.s 48), none, [], false⟩,
     ⟨(some 50), .mv (.s 8), none, [], false⟩,
     ⟨(some 51), .conv .u32 (.s 50), none, [], false⟩,
     ⟨(some 52), .idxA 1 (.s 46) (.s 49), none, [], false⟩,
     ⟨none, .store 1 (.s 52) (.s 51), none, [], false⟩])
   (.reg [1, 5, 6, 7, 8, 17, 18, 19, 24, 25, 26] [⟨(some 53), .mv (.s 8), none, [], false⟩,
     ⟨(some 54), .bin .shr .num (.s 53) (.c (.int .u64 32)), none, [], false⟩,
     ⟨(some 8), .mv (.s 54), none, [], true⟩])))))
  (.reg [1, 5, 6, 7, 8, 17, 18, 19, 24, 25, 26] [⟨(some 55), .bin .add .num (.s 26) (.c (.int .i64 1)), none, [], false⟩,
    ⟨(some 26), .mv (.s 55), none, [], false⟩]))))
def i196b1 : ICode :=
  (.seq (.reg [1, 5, 17, 18, 19] [⟨(some 20), .bin .lss .num (.s 19) (.s 18), none, [], false⟩])
  (.seq (.cond (.s 20)
   .skip
   (.exit 0))
  (.seq (.block 1
   (.seq (.reg [1, 5, 17, 18, 19] [⟨(some 21), .mv (.s 19), none, [], false⟩,
     ⟨(some 22), .idxA 1 (.s 17) (.s 19), none, [], false⟩,
     ⟨(some 23), .load false 1 (.s 22), none, [], false⟩,
     ⟨(some 6), .mv (.s 21), none, [], true⟩,
     ⟨(some 7), .mv (.s 23), none, [], true⟩])
   (.seq (.reg [1, 5, 6, 7, 17, 18, 19] [⟨(some 8), .mv (.c (.int .u64 0)), none, [], true⟩])
   (.seq (.seq (.reg [1, 5, 6, 7, 8, 17, 18, 19] [⟨(some 24), .mv (.s 1), none, [], false⟩,
     ⟨(some 25), .len false (.s 24), none, [], false⟩,
     ⟨(some 26), .mv (.c (.int .i64 0)), none, [], false⟩])
   (.block 2
    (.loop [1, 5, 6, 7, 8, 17, 18, 19, 24, 25, 26] i196b0)))
   (.reg [1, 5, 6, 8, 17, 18, 19] [⟨(some 56), .mv (.s 5), none, [], false⟩,
     ⟨(some 57), .mv (.s 6), none, [], false⟩,
     ⟨(some 58), .mv (.s 1), none, [], false⟩,
     ⟨(some 59), .len false (.s 58), none, [], false⟩,
     ⟨(some 60), .bin .add .num (.s 57) (.s 59), none, [], false⟩,
     ⟨(some 61), .mv (.s 8), none, [], false⟩,
     ⟨(some 62), .conv .u32 (.s 61), none, [], false⟩,
     ⟨(some 63), .idxA 1 (.s 56) (.s 60), none, [], false⟩,
     ⟨none, .store 1 (.s 63) (.s 62), none, [], false⟩])))))
  (.reg [1, 5, 17, 18, 19] [⟨(some 64), .bin .add .num (.s 19) (.c (.int .i64 1)), none, [], false⟩,
    ⟨(some 19), .mv (.s 64), none, [], false⟩]))))
def i196 : IFn := { nparams := 2, ntmps := 67, results := [.tmp 4], body :=
  (.seq (.reg [0, 1] [⟨(some 4), .mv (.c (.sl .nil [])), none, [], true⟩])
   (.seq (.reg [0, 1] [⟨(some 11), .mv (.s 0), none, [], false⟩,
     ⟨(some 12), .len false (.s 11), none, [], false⟩,
     ⟨(some 13), .mv (.s 1), none, [], false⟩,
     ⟨(some 14), .len false (.s 13), none, [], false⟩,
     ⟨(some 15), .bin .add .num (.s 12) (.s 14), none, [], false⟩,
     ⟨(some 16), .mksl 1 4 (.int .u32 0) (.s 15) (.s 15), none, [], false⟩,
     ⟨(some 5), .mv (.s 16), none, [], true⟩])
   (.seq (.seq (.reg [0, 1, 5] [⟨(some 17), .mv (.s 0), none, [], false⟩,
     ⟨(some 18), .len false (.s 17), none, [], false⟩,
     ⟨(some 19), .mv (.c (.int .i64 0)), none, [], false⟩])
   (.block 0
    (.loop [1, 5, 17, 18, 19] i196b1)))
   (.seq (.reg [5] [⟨(some 65), .mv (.s 5), none, [], false⟩,
     ⟨(some 66), .call (.c (.fn (.func 156) [] [])) [(.s 65)], none, [], false⟩,
     ⟨(some 4), .mv (.s 66), none, [], true⟩])
   .ret)))) }
theorem tr196 : trF Tryz.prog h196 Tryz.f196 = some i196 := by kernel_rfl

-- ashlar/limbs.up
def h197 : List (List Nat) := [[0, 1], [0, 1], [], [0, 1]]
def i197 : IFn := { nparams := 2, ntmps := 12, results := [.tmp 4], body :=
  (.seq (.reg [0, 1] [⟨(some 4), .mv (.c (.sl .nil [])), none, [], true⟩])
   (.seq (.seq (.reg [0, 1] [⟨(some 5), .mv (.s 0), none, [], false⟩,
     ⟨(some 6), .len false (.s 5), none, [], false⟩,
     ⟨(some 7), .bin .eql .num (.s 6) (.c (.int .i64 0)), none, [], false⟩])
   (.cond (.s 7)
    (.seq (.reg [] [⟨(some 4), .mv (.c (.sl .nil [])), none, [], true⟩])
    .ret)
    .skip))
   (.seq (.reg [0, 1] [⟨(some 8), .mv (.s 1), none, [], false⟩,
     ⟨(some 9), .mksl 1 4 (.int .u32 0) (.s 8) (.s 8), none, [], false⟩,
     ⟨(some 10), .mv (.s 0), none, [], false⟩,
     ⟨(some 11), .app 1 4 (.s 9) (.s 10), none, [], false⟩,
     ⟨(some 4), .mv (.s 11), none, [], true⟩])
   .ret))) }
theorem tr197 : trF Tryz.prog h197 Tryz.f197 = some i197 := by kernel_rfl

-- ashlar/upoly.at
def h198 : List (List Nat) := [[0, 1], [0, 1, 4], [0, 1, 4], [4]]
def i198 : IFn := { nparams := 2, ntmps := 14, results := [.cell 4 true 2], body :=
  (.seq (.reg [0, 1] [⟨(some 4), .alloc 2 (.agg [(.bool false), (.sl .nil [])]), none, [], false⟩])
   (.seq (.seq (.reg [0, 1, 4] [⟨(some 5), .mv (.s 1), none, [], false⟩,
     ⟨(some 6), .mv (.s 0), none, [], false⟩,
     ⟨(some 7), .len false (.s 6), none, [], false⟩,
     ⟨(some 8), .bin .lss .num (.s 5) (.s 7), none, [], false⟩])
   (.cond (.s 8)
    (.seq (.reg [0, 1, 4] [⟨(some 9), .mv (.s 0), none, [], false⟩,
      ⟨(some 10), .mv (.s 1), none, [], false⟩,
      ⟨(some 11), .idxA 2 (.s 9) (.s 10), none, [], false⟩,
      ⟨(some 12), .load true 2 (.s 11), none, [], false⟩,
      ⟨none, .store 2 (.s 4) (.s 12), none, [], false⟩])
    .ret)
    .skip))
   (.seq (.reg [4] [⟨(some 13), .build [(.bool false), (.sl .nil [])] [], none, [], false⟩,
     ⟨none, .store 2 (.s 4) (.s 13), none, [], false⟩])
   .ret))) }
theorem tr198 : trF Tryz.prog h198 Tryz.f198 = some i198 := by kernel_rfl
end Go.Proofs.YtpfbgpclhkjgaaaGreat
