/- A part of the proof: an evaluator of programs, its soundness, and what it says of the functions in hand. It holds without further conditions. -/
import Derived.Test.YtklelbidjcealaaGreatG2
import Derived.KernelRfl
import Derived.Test.YtklelbidjcealaaGreatChecked
set_option linter.unusedVariables false
set_option linter.unusedSimpArgs false
set_option maxRecDepth 100000
namespace Go.Proofs.YtklelbidjcealaaGreat
open Go.Ab
def h2 : List (List Nat):=[[]]
def i2 : IFn:={ nparams:=0,ntmps:=1,results:=[],body :=
 (.reg [] [sq 0 (.call (.c (.fn (.func 1) [] [])) [])]) }
theorem tr2 : trF Tryz.prog h2 Tryz.f2 = some i2:=by kernel_rfl
def h3 : List (List Nat):=[[0,1,2,3],[0,2,3,5],[0,2,3,5,9],[0,2,3,5,9],[2,3,9,10,11,12],[9],[2,3,9,10,11],[2,3,9,10,11,13,14],[9,11,13,14,15,16],[9,15,16],[9,11,13,14,15,16]]
def i3 : IFn:={ nparams:=4,ntmps:=72,results:=[.tmp 8],body :=
 (.seq (.reg [0,1,2,3] [sq 5 (.box 2 (.s 1)),
 sa 8 (.mv (.c (.bool false)))])
 (.seq (.reg [0,2,3,5] [sq 17 (.call (.c (.fn (.func 14) [] [])) []),
 sa 9 (.mv (.s 17))])
 (.seq (.reg [0,2,3,5,9] [sq 18 (.mv (.s 2)),
 sq 19 (.call (.c (.fn (.func 15) [] [])) [(.s 18)]),
 sq 20 (.mv (.s 3)),
 sq 21 (.call (.c (.fn (.func 15) [] [])) [(.s 20)]),
 sa 2 (.mv (.s 19)),
 sa 3 (.mv (.s 21))])
 (.seq (.reg [0,2,3,5,9] [sq 23 (.mv (.s 0)),
 sq 24 (.load true 2 (.s 5)),
 sq 25 (.call (.c (.fn (.func 16) [] [])) [(.s 23),(.s 24)]),
 sq 22 (.mv (.s 25)),
 sq 26 (.extr (.s 22) 0),
 sq 27 (.extr (.s 22) 1),
 sq 28 (.extr (.s 22) 2),
 sq 11 (.alloc 3 (.agg [(.int .i64 0),(.bool false),(.sl .nil [])])),
 sa 10 (.mv (.s 26)),
 se (.store 3 (.s 11) (.s 27)),
 sa 12 (.mv (.s 28))])
 (.seq (.seq (.reg [2,3,9,10,11,12] [sq 29 (.mv (.s 12)),
 sq 30 (.un .not (.s 29))])
 (.cond (.s 30)
 (.seq (.reg [9] [sq 31 (.mv (.s 9)),
 sa 8 (.mv (.s 31))])
 .ret)
 .skip))
 (.seq (.reg [2,3,9,10,11] [sq 32 (.mv (.s 2)),
 sq 33 (.call (.c (.fn (.func 17) [] [])) [(.s 32)]),
 sq 34 (.mv (.s 3)),
 sq 35 (.call (.c (.fn (.func 17) [] [])) [(.s 34)]),
 sa 13 (.mv (.s 33)),
 sa 14 (.mv (.s 35))])
 (.seq (.reg [2,3,9,10,11,13,14] [sq 37 (.mv (.s 10)),
 sq 38 (.mv (.s 2)),
 sq 39 (.mv (.s 3)),
 sq 40 (.call (.c (.fn (.func 18) [] [])) [(.s 37),(.s 38),(.s 39)]),
 sq 36 (.mv (.s 40)),
 sq 41 (.extr (.s 36) 0),
 sq 42 (.extr (.s 36) 1),
 sa 15 (.mv (.s 41)),
 sa 16 (.mv (.s 42))])
 (.seq (.seq (.reg [9,11,13,14,15,16] [sq 43 (.mv (.s 13)),
 sq 44 (.mv (.s 14)),
 sq 45 (.fldA 1 true 2 (.s 11)),
 sq 46 (.load true 2 (.s 45)),
 sq 47 (.call (.c (.fn (.func 19) [] [])) [(.s 43),(.s 44),(.s 46)]),
 sq 48 (.bin .gtr .num (.s 47) (.c (.int .i64 1048576)))])
 (.cond (.s 48)
 (.seq (.reg [9,15,16] [sq 49 (.mv (.s 9)),
 sq 50 (.mv (.s 49)),
 ⟨(some 51),.mv (.s 16),(some (50,true)),[],false⟩,
 ⟨(some 52),.bin .eql .num (.s 51) (.c (.int .i64 4)),(some (50,true)),[],false⟩,
 sq 53 (.pick (.s 50) (.s 52) (.c (.bool false))),
 sq 54 (.mv (.s 53)),
 ⟨(some 55),.mv (.s 15),(some (54,true)),[],false⟩,
 ⟨(some 56),.len false (.s 55),(some (54,true)),[],false⟩,
 ⟨(some 57),.bin .eql .num (.s 56) (.c (.int .i64 0)),(some (54,true)),[],false⟩,
 sq 58 (.pick (.s 54) (.s 57) (.c (.bool false))),
 sa 8 (.mv (.s 58))])
 .ret)
 .skip))
 (.seq (.reg [9,11,13,14,15,16] [sq 59 (.mv (.s 9)),
 sq 60 (.mv (.s 59)),
 ⟨(some 61),.mv (.s 16),(some (60,true)),[],false⟩,
 ⟨(some 62),.bin .eql .num (.s 61) (.c (.int .i64 0)),(some (60,true)),[],false⟩,
 sq 63 (.pick (.s 60) (.s 62) (.c (.bool false))),
 sq 64 (.mv (.s 63)),
 ⟨(some 65),.mv (.s 15),(some (64,true)),[],false⟩,
 ⟨(some 66),.load true 3 (.s 11),(some (64,true)),[],false⟩,
 ⟨(some 67),.mv (.s 13),(some (64,true)),[],false⟩,
 ⟨(some 68),.mv (.s 14),(some (64,true)),[],false⟩,
 ⟨(some 69),.call (.c (.fn (.func 21) [] [])) [(.s 66),(.s 67),(.s 68)],(some (64,true)),[],false⟩,
 ⟨(some 70),.call (.c (.fn (.func 20) [] [])) [(.s 65),(.s 69)],(some (64,true)),[],false⟩,
 sq 71 (.pick (.s 64) (.s 70) (.c (.bool false))),
 sa 8 (.mv (.s 71))])
 .ret))))))))) }
theorem tr3 : trF Tryz.prog h3 Tryz.f3 = some i3:=by kernel_rfl
def h4 : List (List Nat):=[[0,1,2,3,4],[0,1,2,3,4],[0,1,2,3,4,11],[11],[0,1,2,3,4,11],[1,2,3,4,11,12,13,14],[11],[1,2,3,4,11,12,13],[1,2,3,4,11,12,13,15],[1,2,3,4,11,12,13,15,16],[1,2,4,11,12,13,15,16],[1,2,4,11,12,13,15],[1,2,4,11,12,13,15,17],[1,2,4,11,12,13,15,16,17],[1,2,11,12,13,15,16,17],[1,2,11,12,13,15,17],[1,2,11,13,15,17,18,19],[11,18,19],[1,2,11,18,19]]
def i4 : IFn:={ nparams:=5,ntmps:=130,results:=[.tmp 10],body :=
 (.seq (.reg [0,1,2,3,4] [sa 10 (.mv (.c (.bool false)))])
 (.seq (.reg [0,1,2,3,4] [sq 20 (.call (.c (.fn (.func 14) [] [])) []),
 sa 11 (.mv (.s 20))])
 (.seq (.seq (.reg [0,1,2,3,4,11] [sq 21 (.mv (.s 1)),
 sq 22 (.bin .lss .num (.s 21) (.c (.int .i64 0))),
 sq 23 (.mv (.s 22)),
 ⟨(some 24),.mv (.s 2),(some (23,false)),[],false⟩,
 ⟨(some 25),.bin .lss .num (.s 24) (.c (.int .i64 0)),(some (23,false)),[],false⟩,
 sq 26 (.pick (.s 23) (.c (.bool true)) (.s 25)),
 sq 27 (.mv (.s 26)),
 ⟨(some 28),.mv (.s 3),(some (27,false)),[],false⟩,
 ⟨(some 29),.bin .lss .num (.s 28) (.c (.int .i64 0)),(some (27,false)),[],false⟩,
 sq 30 (.pick (.s 27) (.c (.bool true)) (.s 29)),
 sq 31 (.mv (.s 30)),
 ⟨(some 32),.mv (.s 4),(some (31,false)),[],false⟩,
 ⟨(some 33),.bin .lss .num (.s 32) (.c (.int .i64 0)),(some (31,false)),[],false⟩,
 sq 34 (.pick (.s 31) (.c (.bool true)) (.s 33)),
 sq 35 (.mv (.s 34)),
 ⟨(some 36),.mv (.s 1),(some (35,false)),[],false⟩,
 ⟨(some 37),.bin .gtr .num (.s 36) (.c (.int .i64 150)),(some (35,false)),[],false⟩,
 sq 38 (.pick (.s 35) (.c (.bool true)) (.s 37)),
 sq 39 (.mv (.s 38)),
 ⟨(some 40),.mv (.s 2),(some (39,false)),[],false⟩,
 ⟨(some 41),.bin .gtr .num (.s 40) (.c (.int .i64 150)),(some (39,false)),[],false⟩,
 sq 42 (.pick (.s 39) (.c (.bool true)) (.s 41)),
 sq 43 (.mv (.s 42)),
 ⟨(some 44),.mv (.s 3),(some (43,false)),[],false⟩,
 ⟨(some 45),.bin .gtr .num (.s 44) (.c (.int .i64 40)),(some (43,false)),[],false⟩,
 sq 46 (.pick (.s 43) (.c (.bool true)) (.s 45)),
 sq 47 (.mv (.s 46)),
 ⟨(some 48),.mv (.s 4),(some (47,false)),[],false⟩,
 ⟨(some 49),.bin .gtr .num (.s 48) (.c (.int .i64 40)),(some (47,false)),[],false⟩,
 sq 50 (.pick (.s 47) (.c (.bool true)) (.s 49))])
 (.cond (.s 50)
 (.seq (.reg [11] [sq 51 (.mv (.s 11)),
 sa 10 (.mv (.s 51))])
 .ret)
 .skip))
 (.seq (.reg [0,1,2,3,4,11] [sq 53 (.mv (.s 0)),
 sq 54 (.bsl 1 (.int .u32 0) 1 [(0,(.c (.int .u32 2)))]),
 sq 55 (.build [(.bool false),(.sl .nil [])] [(1,1,(.s 54))]),
 sq 56 (.call (.c (.fn (.func 16) [] [])) [(.s 53),(.s 55)]),
 sq 52 (.mv (.s 56)),
 sq 57 (.extr (.s 52) 0),
 sq 58 (.extr (.s 52) 1),
 sq 59 (.extr (.s 52) 2),
 sq 13 (.alloc 3 (.agg [(.int .i64 0),(.bool false),(.sl .nil [])])),
 sa 12 (.mv (.s 57)),
 se (.store 3 (.s 13) (.s 58)),
 sa 14 (.mv (.s 59))])
 (.seq (.seq (.reg [1,2,3,4,11,12,13,14] [sq 60 (.mv (.s 14)),
 sq 61 (.un .not (.s 60))])
 (.cond (.s 61)
 (.seq (.reg [11] [sq 62 (.mv (.s 11)),
 sa 10 (.mv (.s 62))])
 .ret)
 .skip))
 (.seq (.reg [1,2,3,4,11,12,13] [sq 63 (.mv (.s 1)),
 sq 64 (.bin .add .num (.s 63) (.c (.int .i64 1))),
 sq 65 (.mksl 1 24 (.sl .nil []) (.s 64) (.s 64)),
 sa 15 (.mv (.s 65))])
 (.seq (.reg [1,2,3,4,11,12,13,15] [sq 66 (.mv (.s 3)),
 sq 67 (.bin .add .num (.s 66) (.c (.int .i64 1))),
 sq 68 (.mksl 2 32 (.agg [(.bool false),(.sl .nil [])]) (.s 67) (.s 67)),
 sa 16 (.mv (.s 68))])
 (.seq (.reg [1,2,3,4,11,12,13,15,16] [sq 69 (.mv (.s 16)),
 sq 70 (.mv (.s 3)),
 sq 71 (.call (.c (.fn (.func 22) [] [])) [(.c (.int .i64 1))]),
 sq 72 (.idxA 2 (.s 69) (.s 70)),
 se (.store 2 (.s 72) (.s 71))])
 (.seq (.reg [1,2,4,11,12,13,15,16] [sq 73 (.mv (.s 15)),
 sq 74 (.mv (.s 1)),
 sq 75 (.mv (.s 16)),
 sq 76 (.idxA 1 (.s 73) (.s 74)),
 se (.store 1 (.s 76) (.s 75))])
 (.seq (.reg [1,2,4,11,12,13,15] [sq 77 (.mv (.s 2)),
 sq 78 (.bin .add .num (.s 77) (.c (.int .i64 1))),
 sq 79 (.mksl 1 24 (.sl .nil []) (.s 78) (.s 78)),
 sa 17 (.mv (.s 79))])
 (.seq (.reg [1,2,4,11,12,13,15,17] [sq 80 (.mv (.s 4)),
 sq 81 (.bin .add .num (.s 80) (.c (.int .i64 1))),
 sq 82 (.mksl 2 32 (.agg [(.bool false),(.sl .nil [])]) (.s 81) (.s 81)),
 sa 16 (.mv (.s 82))])
 (.seq (.reg [1,2,4,11,12,13,15,16,17] [sq 83 (.mv (.s 16)),
 sq 84 (.mv (.s 4)),
 sq 85 (.call (.c (.fn (.func 22) [] [])) [(.c (.int .i64 1))]),
 sq 86 (.idxA 2 (.s 83) (.s 84)),
 se (.store 2 (.s 86) (.s 85))])
 (.seq (.reg [1,2,11,12,13,15,16,17] [sq 87 (.mv (.s 17)),
 sq 88 (.mv (.s 2)),
 sq 89 (.mv (.s 16)),
 sq 90 (.idxA 1 (.s 87) (.s 88)),
 se (.store 1 (.s 90) (.s 89))])
 (.seq (.reg [1,2,11,12,13,15,17] [sq 92 (.mv (.s 12)),
 sq 93 (.mv (.s 15)),
 sq 94 (.call (.c (.fn (.func 23) [] [])) [(.s 93)]),
 sq 95 (.mv (.s 17)),
 sq 96 (.call (.c (.fn (.func 23) [] [])) [(.s 95)]),
 sq 97 (.call (.c (.fn (.func 18) [] [])) [(.s 92),(.s 94),(.s 96)]),
 sq 91 (.mv (.s 97)),
 sq 98 (.extr (.s 91) 0),
 sq 99 (.extr (.s 91) 1),
 sa 18 (.mv (.s 98)),
 sa 19 (.mv (.s 99))])
 (.seq (.seq (.reg [1,2,11,13,15,17,18,19] [sq 100 (.mv (.s 15)),
 sq 101 (.mv (.s 17)),
 sq 102 (.fldA 1 true 2 (.s 13)),
 sq 103 (.load true 2 (.s 102)),
 sq 104 (.call (.c (.fn (.func 19) [] [])) [(.s 100),(.s 101),(.s 103)]),
 sq 105 (.bin .gtr .num (.s 104) (.c (.int .i64 1048576)))])
 (.cond (.s 105)
 (.seq (.reg [11,18,19] [sq 106 (.mv (.s 11)),
 sq 107 (.mv (.s 106)),
 ⟨(some 108),.mv (.s 19),(some (107,true)),[],false⟩,
 ⟨(some 109),.bin .eql .num (.s 108) (.c (.int .i64 4)),(some (107,true)),[],false⟩,
 sq 110 (.pick (.s 107) (.s 109) (.c (.bool false))),
 sq 111 (.mv (.s 110)),
 ⟨(some 112),.mv (.s 18),(some (111,true)),[],false⟩,
 ⟨(some 113),.len false (.s 112),(some (111,true)),[],false⟩,
 ⟨(some 114),.bin .eql .num (.s 113) (.c (.int .i64 0)),(some (111,true)),[],false⟩,
 sq 115 (.pick (.s 111) (.s 114) (.c (.bool false))),
 sa 10 (.mv (.s 115))])
 .ret)
 .skip))
 (.seq (.reg [1,2,11,18,19] [sq 116 (.mv (.s 11)),
 sq 117 (.mv (.s 116)),
 ⟨(some 118),.mv (.s 19),(some (117,true)),[],false⟩,
 ⟨(some 119),.bin .eql .num (.s 118) (.c (.int .i64 0)),(some (117,true)),[],false⟩,
 sq 120 (.pick (.s 117) (.s 119) (.c (.bool false))),
 sq 121 (.mv (.s 120)),
 ⟨(some 122),.mv (.s 18),(some (121,true)),[],false⟩,
 ⟨(some 123),.len false (.s 122),(some (121,true)),[],false⟩,
 ⟨(some 124),.mv (.s 1),(some (121,true)),[],false⟩,
 ⟨(some 125),.mv (.s 2),(some (121,true)),[],false⟩,
 ⟨(some 126),.bin .add .num (.s 124) (.s 125),(some (121,true)),[],false⟩,
 ⟨(some 127),.bin .add .num (.s 126) (.c (.int .i64 1)),(some (121,true)),[],false⟩,
 ⟨(some 128),.bin .eql .num (.s 123) (.s 127),(some (121,true)),[],false⟩,
 sq 129 (.pick (.s 121) (.s 128) (.c (.bool false))),
 sa 10 (.mv (.s 129))])
 .ret)))))))))))))))) }
theorem tr4 : trF Tryz.prog h4 Tryz.f4 = some i4:=by kernel_rfl
def h5 : List (List Nat):=[[0,1],[0,1],[0,1,5],[5,6],[5,6,7],[5,6,7,8],[5,6,8,9],[5,8,9],[5,6,8,9]]
def i5 : IFn:={ nparams:=2,ntmps:=51,results:=[.tmp 4],body :=
 (.seq (.reg [0,1] [sa 4 (.mv (.c (.bool false)))])
 (.seq (.reg [0,1] [sq 10 (.call (.c (.fn (.func 14) [] [])) []),
 sa 5 (.mv (.s 10))])
 (.seq (.reg [0,1,5] [sq 11 (.mv (.s 1)),
 sq 12 (.call (.c (.fn (.func 26) [] [])) [(.s 11),(.c (.int .i64 3)),(.c (.int .i64 1))]),
 sq 13 (.call (.c (.fn (.func 25) [] [])) [(.s 12)]),
 sq 14 (.mv (.s 0)),
 sq 15 (.call (.c (.fn (.func 27) [] [])) [(.s 14),(.c (.int .i64 3)),(.c (.int .i64 3)),(.c (.int .i64 1))]),
 sq 16 (.call (.c (.fn (.func 17) [] [])) [(.s 15)]),
 sq 17 (.call (.c (.fn (.func 24) [] [])) [(.s 13),(.s 16)]),
 sa 6 (.mv (.s 17))])
 (.seq (.reg [5,6] [sq 18 (.mv (.s 6)),
 sq 19 (.call (.c (.fn (.func 23) [] [])) [(.s 18)]),
 sa 7 (.mv (.s 19))])
 (.seq (.reg [5,6,7] [sq 20 (.mv (.s 7)),
 sq 21 (.call (.c (.fn (.func 28) [] [])) [(.s 20)]),
 sa 8 (.mv (.s 21))])
 (.seq (.reg [5,6,7,8] [sq 22 (.mv (.s 7)),
 sq 23 (.call (.c (.fn (.func 29) [] [])) [(.s 22)]),
 sa 9 (.mv (.s 23))])
 (.seq (.seq (.reg [5,6,8,9] [sq 24 (.mv (.s 6)),
 sq 25 (.len false (.s 24)),
 sq 26 (.bin .eql .num (.s 25) (.c (.int .i64 0)))])
 (.cond (.s 26)
 (.seq (.reg [5,8,9] [sq 27 (.mv (.s 5)),
 sq 28 (.mv (.s 27)),
 ⟨(some 29),.mv (.s 8),(some (28,true)),[],false⟩,
 ⟨(some 30),.len false (.s 29),(some (28,true)),[],false⟩,
 ⟨(some 31),.bin .eql .num (.s 30) (.c (.int .i64 0)),(some (28,true)),[],false⟩,
 sq 32 (.pick (.s 28) (.s 31) (.c (.bool false))),
 sq 33 (.mv (.s 32)),
 ⟨(some 34),.mv (.s 9),(some (33,true)),[],false⟩,
 ⟨(some 35),.len false (.s 34),(some (33,true)),[],false⟩,
 ⟨(some 36),.bin .eql .num (.s 35) (.c (.int .i64 0)),(some (33,true)),[],false⟩,
 sq 37 (.pick (.s 33) (.s 36) (.c (.bool false))),
 sa 4 (.mv (.s 37))])
 .ret)
 .skip))
 (.seq (.reg [5,6,8,9] [sq 38 (.mv (.s 5)),
 sq 39 (.mv (.s 38)),
 ⟨(some 40),.mv (.s 8),(some (39,true)),[],false⟩,
 ⟨(some 41),.mv (.s 6),(some (39,true)),[],false⟩,
 ⟨(some 42),.call (.c (.fn (.func 31) [] [])) [(.s 41)],(some (39,true)),[],false⟩,
 ⟨(some 43),.call (.c (.fn (.func 30) [] [])) [(.s 40),(.s 42)],(some (39,true)),[],false⟩,
 sq 44 (.pick (.s 39) (.s 43) (.c (.bool false))),
 sq 45 (.mv (.s 44)),
 ⟨(some 46),.mv (.s 9),(some (45,true)),[],false⟩,
 ⟨(some 47),.mv (.s 6),(some (45,true)),[],false⟩,
 ⟨(some 48),.call (.c (.fn (.func 32) [] [])) [(.s 47)],(some (45,true)),[],false⟩,
 ⟨(some 49),.call (.c (.fn (.func 20) [] [])) [(.s 46),(.s 48)],(some (45,true)),[],false⟩,
 sq 50 (.pick (.s 45) (.s 49) (.c (.bool false))),
 sa 4 (.mv (.s 50))])
 .ret)))))))) }
theorem tr5 : trF Tryz.prog h5 Tryz.f5 = some i5:=by kernel_rfl
def h6 : List (List Nat):=[[0,1,2,3],[0,2,3,5],[0,2,3,5,9],[0,2,3,5,9],[2,3,9,10,11,12],[9],[2,3,9,10,11],[2,3,9,10,11,13,14],[9,11,13,14,15,16],[9,15,16],[9,11,13,14,15,16]]
def i6 : IFn:={ nparams:=4,ntmps:=72,results:=[.tmp 8],body :=
 (.seq (.reg [0,1,2,3] [sq 5 (.box 2 (.s 1)),
 sa 8 (.mv (.c (.bool false)))])
 (.seq (.reg [0,2,3,5] [sq 17 (.call (.c (.fn (.func 14) [] [])) []),
 sa 9 (.mv (.s 17))])
 (.seq (.reg [0,2,3,5,9] [sq 18 (.mv (.s 2)),
 sq 19 (.call (.c (.fn (.func 15) [] [])) [(.s 18)]),
 sq 20 (.mv (.s 3)),
 sq 21 (.call (.c (.fn (.func 26) [] [])) [(.s 20),(.c (.int .i64 7)),(.c (.int .i64 2))]),
 sa 2 (.mv (.s 19)),
 sa 3 (.mv (.s 21))])
 (.seq (.reg [0,2,3,5,9] [sq 23 (.mv (.s 0)),
 sq 24 (.load true 2 (.s 5)),
 sq 25 (.call (.c (.fn (.func 16) [] [])) [(.s 23),(.s 24)]),
 sq 22 (.mv (.s 25)),
 sq 26 (.extr (.s 22) 0),
 sq 27 (.extr (.s 22) 1),
 sq 28 (.extr (.s 22) 2),
 sq 11 (.alloc 3 (.agg [(.int .i64 0),(.bool false),(.sl .nil [])])),
 sa 10 (.mv (.s 26)),
 se (.store 3 (.s 11) (.s 27)),
 sa 12 (.mv (.s 28))])
 (.seq (.seq (.reg [2,3,9,10,11,12] [sq 29 (.mv (.s 12)),
 sq 30 (.un .not (.s 29))])
 (.cond (.s 30)
 (.seq (.reg [9] [sq 31 (.mv (.s 9)),
 sa 8 (.mv (.s 31))])
 .ret)
 .skip))
 (.seq (.reg [2,3,9,10,11] [sq 32 (.mv (.s 2)),
 sq 33 (.call (.c (.fn (.func 17) [] [])) [(.s 32)]),
 sq 34 (.mv (.s 3)),
 sq 35 (.call (.c (.fn (.func 25) [] [])) [(.s 34)]),
 sa 13 (.mv (.s 33)),
 sa 14 (.mv (.s 35))])
 (.seq (.reg [2,3,9,10,11,13,14] [sq 37 (.mv (.s 10)),
 sq 38 (.mv (.s 2)),
 sq 39 (.mv (.s 3)),
 sq 40 (.call (.c (.fn (.func 33) [] [])) [(.s 37),(.s 38),(.s 39)]),
 sq 36 (.mv (.s 40)),
 sq 41 (.extr (.s 36) 0),
 sq 42 (.extr (.s 36) 1),
 sa 15 (.mv (.s 41)),
 sa 16 (.mv (.s 42))])
 (.seq (.seq (.reg [9,11,13,14,15,16] [sq 43 (.mv (.s 13)),
 sq 44 (.mv (.s 14)),
 sq 45 (.fldA 1 true 2 (.s 11)),
 sq 46 (.load true 2 (.s 45)),
 sq 47 (.call (.c (.fn (.func 34) [] [])) [(.s 43),(.s 44),(.s 46)]),
 sq 48 (.bin .gtr .num (.s 47) (.c (.int .i64 1048576)))])
 (.cond (.s 48)
 (.seq (.reg [9,15,16] [sq 49 (.mv (.s 9)),
 sq 50 (.mv (.s 49)),
 ⟨(some 51),.mv (.s 16),(some (50,true)),[],false⟩,
 ⟨(some 52),.bin .eql .num (.s 51) (.c (.int .i64 4)),(some (50,true)),[],false⟩,
 sq 53 (.pick (.s 50) (.s 52) (.c (.bool false))),
 sq 54 (.mv (.s 53)),
 ⟨(some 55),.mv (.s 15),(some (54,true)),[],false⟩,
 ⟨(some 56),.len false (.s 55),(some (54,true)),[],false⟩,
 ⟨(some 57),.bin .eql .num (.s 56) (.c (.int .i64 0)),(some (54,true)),[],false⟩,
 sq 58 (.pick (.s 54) (.s 57) (.c (.bool false))),
 sa 8 (.mv (.s 58))])
 .ret)
 .skip))
 (.seq (.reg [9,11,13,14,15,16] [sq 59 (.mv (.s 9)),
 sq 60 (.mv (.s 59)),
 ⟨(some 61),.mv (.s 16),(some (60,true)),[],false⟩,
 ⟨(some 62),.bin .eql .num (.s 61) (.c (.int .i64 0)),(some (60,true)),[],false⟩,
 sq 63 (.pick (.s 60) (.s 62) (.c (.bool false))),
 sq 64 (.mv (.s 63)),
 ⟨(some 65),.mv (.s 15),(some (64,true)),[],false⟩,
 ⟨(some 66),.load true 3 (.s 11),(some (64,true)),[],false⟩,
 ⟨(some 67),.mv (.s 13),(some (64,true)),[],false⟩,
 ⟨(some 68),.mv (.s 14),(some (64,true)),[],false⟩,
 ⟨(some 69),.call (.c (.fn (.func 35) [] [])) [(.s 66),(.s 67),(.s 68)],(some (64,true)),[],false⟩,
 ⟨(some 70),.call (.c (.fn (.func 30) [] [])) [(.s 65),(.s 69)],(some (64,true)),[],false⟩,
 sq 71 (.pick (.s 64) (.s 70) (.c (.bool false))),
 sa 8 (.mv (.s 71))])
 .ret))))))))) }
theorem tr6 : trF Tryz.prog h6 Tryz.f6 = some i6:=by kernel_rfl
def h7 : List (List Nat):=[[0,1,2,3,4],[0,2,3,4,6],[0,2,3,4,6,11],[0,2,3,4,6,11],[2,3,4,11,12,14],[11],[2,3,4,11,12],[2,3,4,11,12,15,16],[2,4,11,12,15,16,17,18],[4,11,12,15,16,18,19,20],[11,16,18,19,20,21,22],[11],[11,19,21]]
def i7 : IFn:={ nparams:=5,ntmps:=90,results:=[.tmp 10],body :=
 (.seq (.reg [0,1,2,3,4] [sq 6 (.box 2 (.s 1)),
 sa 10 (.mv (.c (.bool false)))])
 (.seq (.reg [0,2,3,4,6] [sq 23 (.call (.c (.fn (.func 14) [] [])) []),
 sa 11 (.mv (.s 23))])
 (.seq (.reg [0,2,3,4,6,11] [sq 24 (.mv (.s 2)),
 sq 25 (.call (.c (.fn (.func 27) [] [])) [(.s 24),(.c (.int .i64 3)),(.c (.int .i64 3)),(.c (.int .i64 1))]),
 sq 26 (.mv (.s 3)),
 sq 27 (.call (.c (.fn (.func 27) [] [])) [(.s 26),(.c (.int .i64 3)),(.c (.int .i64 3)),(.c (.int .i64 1))]),
 sq 28 (.mv (.s 4)),
 sq 29 (.call (.c (.fn (.func 26) [] [])) [(.s 28),(.c (.int .i64 5)),(.c (.int .i64 1))]),
 sa 2 (.mv (.s 25)),
 sa 3 (.mv (.s 27)),
 sa 4 (.mv (.s 29))])
 (.seq (.reg [0,2,3,4,6,11] [sq 31 (.mv (.s 0)),
 sq 32 (.load true 2 (.s 6)),
 sq 33 (.call (.c (.fn (.func 16) [] [])) [(.s 31),(.s 32)]),
 sq 30 (.mv (.s 33)),
 sq 34 (.extr (.s 30) 0),
 sq 35 (.extr (.s 30) 1),
 sq 36 (.extr (.s 30) 2),
 sq 13 (.alloc 3 (.agg [(.int .i64 0),(.bool false),(.sl .nil [])])),
 sa 12 (.mv (.s 34)),
 se (.store 3 (.s 13) (.s 35)),
 sa 14 (.mv (.s 36))])
 (.seq (.seq (.reg [2,3,4,11,12,14] [sq 37 (.mv (.s 14)),
 sq 38 (.un .not (.s 37))])
 (.cond (.s 38)
 (.seq (.reg [11] [sq 39 (.mv (.s 11)),
 sa 10 (.mv (.s 39))])
 .ret)
 .skip))
 (.seq (.reg [2,3,4,11,12] [sq 41 (.mv (.s 12)),
 sq 42 (.mv (.s 2)),
 sq 43 (.mv (.s 3)),
 sq 44 (.call (.c (.fn (.func 18) [] [])) [(.s 41),(.s 42),(.s 43)]),
 sq 40 (.mv (.s 44)),
 sq 45 (.extr (.s 40) 0),
 sq 46 (.extr (.s 40) 1),
 sa 15 (.mv (.s 45)),
 sa 16 (.mv (.s 46))])
 (.seq (.reg [2,3,4,11,12,15,16] [sq 48 (.mv (.s 12)),
 sq 49 (.mv (.s 3)),
 sq 50 (.mv (.s 4)),
 sq 51 (.call (.c (.fn (.func 33) [] [])) [(.s 48),(.s 49),(.s 50)]),
 sq 47 (.mv (.s 51)),
 sq 52 (.extr (.s 47) 0),
 sq 53 (.extr (.s 47) 1),
 sa 17 (.mv (.s 52)),
 sa 18 (.mv (.s 53))])
 (.seq (.reg [2,4,11,12,15,16,17,18] [sq 55 (.mv (.s 12)),
 sq 56 (.mv (.s 2)),
 sq 57 (.mv (.s 17)),
 sq 58 (.call (.c (.fn (.func 33) [] [])) [(.s 55),(.s 56),(.s 57)]),
 sq 54 (.mv (.s 58)),
 sq 59 (.extr (.s 54) 0),
 sq 60 (.extr (.s 54) 1),
 sa 19 (.mv (.s 59)),
 sa 20 (.mv (.s 60))])
 (.seq (.reg [4,11,12,15,16,18,19,20] [sq 62 (.mv (.s 12)),
 sq 63 (.mv (.s 15)),
 sq 64 (.mv (.s 4)),
 sq 65 (.call (.c (.fn (.func 33) [] [])) [(.s 62),(.s 63),(.s 64)]),
 sq 61 (.mv (.s 65)),
 sq 66 (.extr (.s 61) 0),
 sq 67 (.extr (.s 61) 1),
 sa 21 (.mv (.s 66)),
 sa 22 (.mv (.s 67))])
 (.seq (.seq (.reg [11,16,18,19,20,21,22] [sq 68 (.mv (.s 16)),
 sq 69 (.bin .neq .num (.s 68) (.c (.int .i64 0))),
 sq 70 (.mv (.s 69)),
 ⟨(some 71),.mv (.s 18),(some (70,false)),[],false⟩,
 ⟨(some 72),.bin .neq .num (.s 71) (.c (.int .i64 0)),(some (70,false)),[],false⟩,
 sq 73 (.pick (.s 70) (.c (.bool true)) (.s 72)),
 sq 74 (.mv (.s 73)),
 ⟨(some 75),.mv (.s 20),(some (74,false)),[],false⟩,
 ⟨(some 76),.bin .neq .num (.s 75) (.c (.int .i64 0)),(some (74,false)),[],false⟩,
 sq 77 (.pick (.s 74) (.c (.bool true)) (.s 76)),
 sq 78 (.mv (.s 77)),
 ⟨(some 79),.mv (.s 22),(some (78,false)),[],false⟩,
 ⟨(some 80),.bin .neq .num (.s 79) (.c (.int .i64 0)),(some (78,false)),[],false⟩,
 sq 81 (.pick (.s 78) (.c (.bool true)) (.s 80))])
 (.cond (.s 81)
 (.seq (.reg [11] [sq 82 (.mv (.s 11)),
 sa 10 (.mv (.s 82))])
 .ret)
 .skip))
 (.seq (.reg [11,19,21] [sq 83 (.mv (.s 11)),
 sq 84 (.mv (.s 83)),
 ⟨(some 85),.mv (.s 19),(some (84,true)),[],false⟩,
 ⟨(some 86),.mv (.s 21),(some (84,true)),[],false⟩,
 ⟨(some 87),.call (.c (.fn (.func 25) [] [])) [(.s 86)],(some (84,true)),[],false⟩,
 ⟨(some 88),.call (.c (.fn (.func 30) [] [])) [(.s 85),(.s 87)],(some (84,true)),[],false⟩,
 sq 89 (.pick (.s 84) (.s 88) (.c (.bool false))),
 sa 10 (.mv (.s 89))])
 .ret))))))))))) }
theorem tr7 : trF Tryz.prog h7 Tryz.f7 = some i7:=by kernel_rfl
def h8 : List (List Nat):=[[0,1,2,3,4],[0,2,3,4,6],[0,2,3,4,6,11],[0,2,3,4,6,11],[2,3,4,11,12,14],[11],[2,3,4,11,12],[2,3,4,11,12,15,16],[2,3,4,11,12,15,16,17,18],[2,3,4,11,12,15,16,17,18,19,20],[2,3,4,11,12,15,16,17,18,19,20,21,22],[2,3,4,11,12,15,16,17,18,19,20,21,22,23,24],[2,3,4,11,12,15,16,17,18,19,20,21,22,23,24,25,26],[2,3,11,15,16,17,18,19,20,21,22,23,24,25,26,27,28],[11],[2,3,11,15,17,19,21,23,25,27],[],[11,15,17,19,21,23,25,27]]
def i8 : IFn:={ nparams:=5,ntmps:=164,results:=[.tmp 10],body :=
 (.seq (.reg [0,1,2,3,4] [sq 6 (.box 2 (.s 1)),
 sa 10 (.mv (.c (.bool false)))])
 (.seq (.reg [0,2,3,4,6] [sq 29 (.call (.c (.fn (.func 14) [] [])) []),
 sa 11 (.mv (.s 29))])
 (.seq (.reg [0,2,3,4,6,11] [sq 30 (.mv (.s 2)),
 sq 31 (.call (.c (.fn (.func 27) [] [])) [(.s 30),(.c (.int .i64 2)),(.c (.int .i64 3)),(.c (.int .i64 1))]),
 sq 32 (.mv (.s 3)),
 sq 33 (.call (.c (.fn (.func 27) [] [])) [(.s 32),(.c (.int .i64 2)),(.c (.int .i64 3)),(.c (.int .i64 1))]),
 sq 34 (.mv (.s 4)),
 sq 35 (.call (.c (.fn (.func 27) [] [])) [(.s 34),(.c (.int .i64 2)),(.c (.int .i64 3)),(.c (.int .i64 1))]),
 sa 2 (.mv (.s 31)),
 sa 3 (.mv (.s 33)),
 sa 4 (.mv (.s 35))])
 (.seq (.reg [0,2,3,4,6,11] [sq 37 (.mv (.s 0)),
 sq 38 (.load true 2 (.s 6)),
 sq 39 (.call (.c (.fn (.func 16) [] [])) [(.s 37),(.s 38)]),
 sq 36 (.mv (.s 39)),
 sq 40 (.extr (.s 36) 0),
 sq 41 (.extr (.s 36) 1),
 sq 42 (.extr (.s 36) 2),
 sq 13 (.alloc 3 (.agg [(.int .i64 0),(.bool false),(.sl .nil [])])),
 sa 12 (.mv (.s 40)),
 se (.store 3 (.s 13) (.s 41)),
 sa 14 (.mv (.s 42))])
 (.seq (.seq (.reg [2,3,4,11,12,14] [sq 43 (.mv (.s 14)),
 sq 44 (.un .not (.s 43))])
 (.cond (.s 44)
 (.seq (.reg [11] [sq 45 (.mv (.s 11)),
 sa 10 (.mv (.s 45))])
 .ret)
 .skip))
 (.seq (.reg [2,3,4,11,12] [sq 47 (.mv (.s 12)),
 sq 48 (.mv (.s 2)),
 sq 49 (.mv (.s 3)),
 sq 50 (.call (.c (.fn (.func 18) [] [])) [(.s 47),(.s 48),(.s 49)]),
 sq 46 (.mv (.s 50)),
 sq 51 (.extr (.s 46) 0),
 sq 52 (.extr (.s 46) 1),
 sa 15 (.mv (.s 51)),
 sa 16 (.mv (.s 52))])
 (.seq (.reg [2,3,4,11,12,15,16] [sq 54 (.mv (.s 12)),
 sq 55 (.mv (.s 3)),
 sq 56 (.mv (.s 4)),
 sq 57 (.call (.c (.fn (.func 18) [] [])) [(.s 54),(.s 55),(.s 56)]),
 sq 53 (.mv (.s 57)),
 sq 58 (.extr (.s 53) 0),
 sq 59 (.extr (.s 53) 1),
 sa 17 (.mv (.s 58)),
 sa 18 (.mv (.s 59))])
 (.seq (.reg [2,3,4,11,12,15,16,17,18] [sq 61 (.mv (.s 12)),
 sq 62 (.mv (.s 15)),
 sq 63 (.mv (.s 4)),
 sq 64 (.call (.c (.fn (.func 18) [] [])) [(.s 61),(.s 62),(.s 63)]),
 sq 60 (.mv (.s 64)),
 sq 65 (.extr (.s 60) 0),
 sq 66 (.extr (.s 60) 1),
 sa 19 (.mv (.s 65)),
 sa 20 (.mv (.s 66))])
 (.seq (.reg [2,3,4,11,12,15,16,17,18,19,20] [sq 68 (.mv (.s 12)),
 sq 69 (.mv (.s 2)),
 sq 70 (.mv (.s 17)),
 sq 71 (.call (.c (.fn (.func 18) [] [])) [(.s 68),(.s 69),(.s 70)]),
 sq 67 (.mv (.s 71)),
 sq 72 (.extr (.s 67) 0),
 sq 73 (.extr (.s 67) 1),
 sa 21 (.mv (.s 72)),
 sa 22 (.mv (.s 73))])
 (.seq (.reg [2,3,4,11,12,15,16,17,18,19,20,21,22] [sq 75 (.mv (.s 12)),
 sq 76 (.mv (.s 2)),
 sq 77 (.mv (.s 4)),
 sq 78 (.call (.c (.fn (.func 18) [] [])) [(.s 75),(.s 76),(.s 77)]),
 sq 74 (.mv (.s 78)),
 sq 79 (.extr (.s 74) 0),
 sq 80 (.extr (.s 74) 1),
 sa 23 (.mv (.s 79)),
 sa 24 (.mv (.s 80))])
 (.seq (.reg [2,3,4,11,12,15,16,17,18,19,20,21,22,23,24] [sq 82 (.mv (.s 12)),
 sq 83 (.mv (.s 2)),
 sq 84 (.mv (.s 3)),
 sq 85 (.mv (.s 4)),
 sq 86 (.call (.c (.fn (.func 36) [] [])) [(.s 84),(.s 85)]),
 sq 87 (.call (.c (.fn (.func 18) [] [])) [(.s 82),(.s 83),(.s 86)]),
 sq 81 (.mv (.s 87)),
 sq 88 (.extr (.s 81) 0),
 sq 89 (.extr (.s 81) 1),
 sa 25 (.mv (.s 88)),
 sa 26 (.mv (.s 89))])
 (.seq (.reg [2,3,4,11,12,15,16,17,18,19,20,21,22,23,24,25,26] [sq 91 (.mv (.s 12)),
 sq 92 (.mv (.s 2)),
 sq 93 (.mv (.s 3)),
 sq 94 (.call (.c (.fn (.func 36) [] [])) [(.s 92),(.s 93)]),
 sq 95 (.mv (.s 4)),
 sq 96 (.call (.c (.fn (.func 18) [] [])) [(.s 91),(.s 94),(.s 95)]),
 sq 90 (.mv (.s 96)),
 sq 97 (.extr (.s 90) 0),
 sq 98 (.extr (.s 90) 1),
 sa 27 (.mv (.s 97)),
 sa 28 (.mv (.s 98))])
 (.seq (.seq (.reg [2,3,11,15,16,17,18,19,20,21,22,23,24,25,26,27,28] [sq 99 (.mv (.s 16)),
 sq 100 (.bin .neq .num (.s 99) (.c (.int .i64 0))),
 sq 101 (.mv (.s 100)),
 ⟨(some 102),.mv (.s 18),(some (101,false)),[],false⟩,
 ⟨(some 103),.bin .neq .num (.s 102) (.c (.int .i64 0)),(some (101,false)),[],false⟩,
 sq 104 (.pick (.s 101) (.c (.bool true)) (.s 103)),
 sq 105 (.mv (.s 104)),
 ⟨(some 106),.mv (.s 20),(some (105,false)),[],false⟩,
 ⟨(some 107),.bin .neq .num (.s 106) (.c (.int .i64 0)),(some (105,false)),[],false⟩,
 sq 108 (.pick (.s 105) (.c (.bool true)) (.s 107)),
 sq 109 (.mv (.s 108)),
 ⟨(some 110),.mv (.s 22),(some (109,false)),[],false⟩,
 ⟨(some 111),.bin .neq .num (.s 110) (.c (.int .i64 0)),(some (109,false)),[],false⟩,
 sq 112 (.pick (.s 109) (.c (.bool true)) (.s 111)),
 sq 113 (.mv (.s 112)),
 ⟨(some 114),.mv (.s 24),(some (113,false)),[],false⟩,
 ⟨(some 115),.bin .neq .num (.s 114) (.c (.int .i64 0)),(some (113,false)),[],false⟩,
 sq 116 (.pick (.s 113) (.c (.bool true)) (.s 115)),
 sq 117 (.mv (.s 116)),
 ⟨(some 118),.mv (.s 26),(some (117,false)),[],false⟩,
 ⟨(some 119),.bin .neq .num (.s 118) (.c (.int .i64 0)),(some (117,false)),[],false⟩,
 sq 120 (.pick (.s 117) (.c (.bool true)) (.s 119)),
 sq 121 (.mv (.s 120)),
 ⟨(some 122),.mv (.s 28),(some (121,false)),[],false⟩,
 ⟨(some 123),.bin .neq .num (.s 122) (.c (.int .i64 0)),(some (121,false)),[],false⟩,
 sq 124 (.pick (.s 121) (.c (.bool true)) (.s 123))])
 (.cond (.s 124)
 (.seq (.reg [11] [sq 125 (.mv (.s 11)),
 sa 10 (.mv (.s 125))])
 .ret)
 .skip))
 (.seq (.seq (.reg [2,3,11,15,17,19,21,23,25,27] [sq 126 (.mv (.s 2)),
 sq 127 (.call (.c (.fn (.func 37) [] [])) [(.s 126)]),
 sq 128 (.bin .geq .num (.s 127) (.c (.int .i64 0))),
 sq 129 (.mv (.s 128)),
 ⟨(some 130),.mv (.s 3),(some (129,true)),[],false⟩,
 ⟨(some 131),.call (.c (.fn (.func 37) [] [])) [(.s 130)],(some (129,true)),[],false⟩,
 ⟨(some 132),.bin .geq .num (.s 131) (.c (.int .i64 0)),(some (129,true)),[],false⟩,
 sq 133 (.pick (.s 129) (.s 132) (.c (.bool false))),
 sq 134 (.mv (.s 133)),
 ⟨(some 135),.mv (.s 15),(some (134,true)),[],false⟩,
 ⟨(some 136),.call (.c (.fn (.func 37) [] [])) [(.s 135)],(some (134,true)),[],false⟩,
 ⟨(some 137),.mv (.s 2),(some (134,true)),[],false⟩,
 ⟨(some 138),.call (.c (.fn (.func 37) [] [])) [(.s 137)],(some (134,true)),[],false⟩,
 ⟨(some 139),.mv (.s 3),(some (134,true)),[],false⟩,
 ⟨(some 140),.call (.c (.fn (.func 37) [] [])) [(.s 139)],(some (134,true)),[],false⟩,
 ⟨(some 141),.bin .add .num (.s 138) (.s 140),(some (134,true)),[],false⟩,
 ⟨(some 142),.bin .neq .num (.s 136) (.s 141),(some (134,true)),[],false⟩,
 sq 143 (.pick (.s 134) (.s 142) (.c (.bool false)))])
 (.cond (.s 143)
 (.seq (.reg [] [sa 10 (.mv (.c (.bool false)))])
 .ret)
 .skip))
 (.seq (.reg [11,15,17,19,21,23,25,27] [sq 144 (.mv (.s 11)),
 sq 145 (.mv (.s 144)),
 ⟨(some 146),.mv (.s 19),(some (145,true)),[],false⟩,
 ⟨(some 147),.mv (.s 21),(some (145,true)),[],false⟩,
 ⟨(some 148),.call (.c (.fn (.func 38) [] [])) [(.s 146),(.s 147)],(some (145,true)),[],false⟩,
 sq 149 (.pick (.s 145) (.s 148) (.c (.bool false))),
 sq 150 (.mv (.s 149)),
 ⟨(some 151),.mv (.s 25),(some (150,true)),[],false⟩,
 ⟨(some 152),.mv (.s 15),(some (150,true)),[],false⟩,
 ⟨(some 153),.mv (.s 23),(some (150,true)),[],false⟩,
 ⟨(some 154),.call (.c (.fn (.func 36) [] [])) [(.s 152),(.s 153)],(some (150,true)),[],false⟩,
 ⟨(some 155),.call (.c (.fn (.func 38) [] [])) [(.s 151),(.s 154)],(some (150,true)),[],false⟩,
 sq 156 (.pick (.s 150) (.s 155) (.c (.bool false))),
 sq 157 (.mv (.s 156)),
 ⟨(some 158),.mv (.s 27),(some (157,true)),[],false⟩,
 ⟨(some 159),.mv (.s 23),(some (157,true)),[],false⟩,
 ⟨(some 160),.mv (.s 17),(some (157,true)),[],false⟩,
 ⟨(some 161),.call (.c (.fn (.func 36) [] [])) [(.s 159),(.s 160)],(some (157,true)),[],false⟩,
 ⟨(some 162),.call (.c (.fn (.func 38) [] [])) [(.s 158),(.s 161)],(some (157,true)),[],false⟩,
 sq 163 (.pick (.s 157) (.s 162) (.c (.bool false))),
 sa 10 (.mv (.s 163))])
 .ret))))))))))))))) }
theorem tr8 : trF Tryz.prog h8 Tryz.f8 = some i8:=by kernel_rfl
def h9 : List (List Nat):=[[0,1],[0,3],[0,3,5],[0,3,5],[0,3,5,6],[0,3,5,6,7],[0,3,5,6,7,8],[0,3,5,6,7,8,9],[0,5,6,7,8,10],[5,6,7,8,10,11]]
def i9d0 : List IStep:=[sq 13 (.mv (.s 0)),
 ⟨(some 14),.call (.c (.fn (.func 15) [] [])) [(.s 13)],none,[0],false⟩,
 sq 15 (.load false 1 (.s 3)),
 ⟨(some 16),.call (.c (.fn (.func 26) [] [])) [(.s 15),(.c (.int .i64 3)),(.c (.int .i64 1))],none,[2,1],false⟩,
 ⟨(some 0),.mv (.s 14),none,[1,3,0],true⟩,
 ⟨none,.store 1 (.s 3) (.s 16),none,[3,4,0,1,2],false⟩]
theorem i9d0t : tame i9d0 = true:=by kernel_rfl
def i9d1 : List IStep:=[sq 22 (.mv (.s 9)),
 sq 23 (.load false 1 (.s 3)),
 ⟨(some 24),.call (.c (.fn (.func 25) [] [])) [(.s 23)],none,[1],false⟩,
 sq 25 (.load false 1 (.s 6)),
 ⟨(some 26),.call (.c (.fn (.func 24) [] [])) [(.s 24),(.s 25)],none,[2,3],false⟩,
 ⟨(some 27),.call (.c (.fn (.func 20) [] [])) [(.s 22),(.s 26)],none,[0,4],false⟩,
 ⟨(some 10),.mv (.s 27),none,[5,0,1,2,3,4],true⟩]
theorem i9d1t : tame i9d1 = true:=by kernel_rfl
def i9d2 : List IStep:=[sq 28 (.mv (.s 0)),
 ⟨(some 29),.call (.c (.fn (.func 39) [] [])) [(.s 28),(.c .nilFn)],none,[0],false⟩,
 sq 30 (.load false 1 (.s 6)),
 ⟨(some 31),.call (.c (.fn (.func 20) [] [])) [(.s 29),(.s 30)],none,[1,2],false⟩,
 ⟨(some 11),.mv (.s 31),none,[3,0,1,2],true⟩]
theorem i9d2t : tame i9d2 = true:=by kernel_rfl
def i9 : IFn:={ nparams:=2,ntmps:=48,results:=[.tmp 4],body :=
 (.seq (.reg [0,1] [sq 3 (.box 1 (.s 1)),
 sa 4 (.mv (.c (.bool false)))])
 (.seq (.reg [0,3] [sq 12 (.call (.c (.fn (.func 14) [] [])) []),
 sa 5 (.mv (.s 12))])
 (.seq (.draw [0,3,5] i9d0)
 (.seq (.reg [0,3,5] [sq 17 (.mv (.s 0)),
 sq 18 (.call (.c (.fn (.func 17) [] [])) [(.s 17)]),
 sq 6 (.alloc 1 (.sl .nil [])),
 se (.store 1 (.s 6) (.s 18))])
 (.seq (.reg [0,3,5,6] [sq 7 (.alloc 1 (.int .i64 0)),
 se (.store 1 (.s 7) (.c (.int .i64 0)))])
 (.seq (.reg [0,3,5,6,7] [sq 8 (.alloc 1 (.bool false)),
 se (.store 1 (.s 8) (.c (.bool true)))])
 (.seq (.reg [0,3,5,6,7,8] [sq 19 (.mv (.s 0)),
 sq 20 (.mkfn (.func 40) [] [(.s 8),(.s 7),(.s 6),(.s 3)]),
 sq 21 (.call (.c (.fn (.func 39) [] [])) [(.s 19),(.s 20)]),
 sa 9 (.mv (.s 21))])
 (.seq (.draw [0,3,5,6,7,8,9] i9d1)
 (.seq (.draw [0,5,6,7,8,10] i9d2)
 (.seq (.reg [5,6,7,8,10,11] [sq 32 (.mv (.s 5)),
 sq 33 (.mv (.s 32)),
 ⟨(some 34),.load false 1 (.s 8),(some (33,true)),[],false⟩,
 sq 35 (.pick (.s 33) (.s 34) (.c (.bool false))),
 sq 36 (.mv (.s 35)),
 ⟨(some 37),.load false 1 (.s 7),(some (36,true)),[],false⟩,
 ⟨(some 38),.load false 1 (.s 6),(some (36,true)),[],false⟩,
 ⟨(some 39),.len false (.s 38),(some (36,true)),[],false⟩,
 ⟨(some 40),.bin .eql .num (.s 37) (.s 39),(some (36,true)),[],false⟩,
 sq 41 (.pick (.s 36) (.s 40) (.c (.bool false))),
 sq 42 (.mv (.s 41)),
 ⟨(some 43),.mv (.s 10),(some (42,true)),[],false⟩,
 sq 44 (.pick (.s 42) (.s 43) (.c (.bool false))),
 sq 45 (.mv (.s 44)),
 ⟨(some 46),.mv (.s 11),(some (45,true)),[],false⟩,
 sq 47 (.pick (.s 45) (.s 46) (.c (.bool false))),
 sa 4 (.mv (.s 47))])
 .ret)))))))))) }
theorem tr9 : trF Tryz.prog h9 Tryz.f9 = some i9:=by kernel_rfl
def h10 : List (List Nat):=[[0,1,2],[0,2,4],[0,2,4,7],[0,2,7,8],[0,2,7,8],[0,2,7,8,9,10],[7,9,10],[0,2,7,8,9,10],[7,9,10],[0,2,7,8,9,10],[],[0,2,7,8,9],[0,2,7,8,9,11],[0,2,7,8,9,11],[0,2,7,9,11],[0,2,7,9,11,12],[0,7,9,11,12,13]]
def i10d0 : List IStep:=[sq 73 (.mv (.s 9)),
 sq 74 (.mv (.s 2)),
 ⟨(some 75),.call (.c (.fn (.func 47) [] [])) [(.s 73),(.s 74)],none,[0,1],false⟩,
 sq 76 (.load true 3 (.s 11)),
 sq 77 (.mv (.s 2)),
 ⟨(some 78),.call (.c (.fn (.func 25) [] [])) [(.s 77)],none,[4,2],false⟩,
 ⟨(some 79),.call (.c (.fn (.func 48) [] [])) [(.s 76),(.s 78)],none,[3,5],false⟩,
 ⟨(some 80),.call (.c (.fn (.func 30) [] [])) [(.s 75),(.s 79)],none,[2,6],false⟩,
 ⟨(some 12),.mv (.s 80),none,[7,0,1,2,3,4,5,6],true⟩]
theorem i10d0t : tame i10d0 = true:=by kernel_rfl
def i10d1 : List IStep:=[sq 81 (.mv (.s 9)),
 sq 82 (.mv (.s 2)),
 ⟨(some 83),.call (.c (.fn (.func 49) [] [])) [(.s 81),(.s 82)],none,[0,1],false⟩,
 sq 84 (.load true 3 (.s 11)),
 sq 85 (.mv (.s 2)),
 ⟨(some 86),.call (.c (.fn (.func 25) [] [])) [(.s 85)],none,[4,2],false⟩,
 ⟨(some 87),.call (.c (.fn (.func 50) [] [])) [(.s 84),(.s 86)],none,[3,5],false⟩,
 ⟨(some 88),.call (.c (.fn (.func 30) [] [])) [(.s 83),(.s 87)],none,[2,6],false⟩,
 ⟨(some 13),.mv (.s 88),none,[7,0,1,2,3,4,5,6],true⟩]
theorem i10d1t : tame i10d1 = true:=by kernel_rfl
def i10d2 : List IStep:=[sq 89 (.mv (.s 7)),
 ⟨(some 90),.mv (.s 89),none,[0],false⟩,
 ⟨(some 91),.mv (.s 9),(some (90,true)),[1],false⟩,
 ⟨(some 92),.call (.c (.fn (.func 51) [] [])) [(.s 91)],(some (90,true)),[2,1],false⟩,
 ⟨(some 93),.mv (.s 0),(some (90,true)),[1],false⟩,
 ⟨(some 94),.bin .eql .num (.s 92) (.s 93),(some (90,true)),[3,4,1],false⟩,
 ⟨(some 95),.pick (.s 90) (.s 94) (.c (.bool false)),none,[1,5],false⟩,
 ⟨(some 96),.mv (.s 95),none,[6,3],false⟩,
 ⟨(some 97),.mv (.s 9),(some (96,true)),[7],false⟩,
 ⟨(some 98),.call (.c (.fn (.func 53) [] [])) [(.s 97)],(some (96,true)),[8,7],false⟩,
 ⟨(some 99),.fldA 1 true 2 (.s 11),(some (96,true)),[7],false⟩,
 ⟨(some 100),.load true 2 (.s 99),(some (96,true)),[10,7],false⟩,
 ⟨(some 101),.call (.c (.fn (.func 52) [] [])) [(.s 98),(.s 100)],(some (96,true)),[9,11,7],false⟩,
 ⟨(some 102),.pick (.s 96) (.s 101) (.c (.bool false)),none,[7,12],false⟩,
 ⟨(some 103),.mv (.s 102),none,[13,12],false⟩,
 ⟨(some 104),.mv (.s 12),(some (103,true)),[14],false⟩,
 ⟨(some 105),.pick (.s 103) (.s 104) (.c (.bool false)),none,[14,15],false⟩,
 ⟨(some 106),.mv (.s 105),none,[16,14],false⟩,
 ⟨(some 107),.mv (.s 13),(some (106,true)),[17],false⟩,
 ⟨(some 108),.pick (.s 106) (.s 107) (.c (.bool false)),none,[17,18],false⟩,
 ⟨(some 6),.mv (.s 108),none,[19,17,0,1,2,3,4,5,6,7,8,9,10,11,12,13,14,15,16,18],true⟩]
theorem i10d2t : tame i10d2 = true:=by kernel_rfl
def i10 : IFn:={ nparams:=3,ntmps:=109,results:=[.tmp 6],body :=
 (.seq (.reg [0,1,2] [sq 4 (.box 2 (.s 1)),
 sa 6 (.mv (.c (.bool false)))])
 (.seq (.reg [0,2,4] [sq 14 (.call (.c (.fn (.func 14) [] [])) []),
 sa 7 (.mv (.s 14))])
 (.seq (.reg [0,2,4,7] [sq 15 (.load true 2 (.s 4)),
 sq 16 (.bsl 2 (.agg [(.bool false),(.sl .nil [])]) 1 [(0,(.s 15))]),
 sq 17 (.call (.c (.fn (.func 26) [] [])) [(.s 16),(.c (.int .i64 1)),(.c (.int .i64 1))]),
 sq 18 (.idxA 2 (.s 17) (.c (.int .i64 0))),
 sq 19 (.load true 2 (.s 18)),
 sq 20 (.call (.c (.fn (.func 43) [] [])) [(.s 19)]),
 sq 8 (.alloc 2 (.agg [(.bool false),(.sl .nil [])])),
 se (.store 2 (.s 8) (.s 20))])
 (.seq (.reg [0,2,7,8] [sq 21 (.mv (.s 2)),
 sq 22 (.call (.c (.fn (.func 26) [] [])) [(.s 21),(.c (.int .i64 7)),(.c (.int .i64 3))]),
 sa 2 (.mv (.s 22))])
 (.seq (.reg [0,2,7,8] [sq 24 (.mv (.s 0)),
 sq 25 (.load true 2 (.s 8)),
 sq 26 (.call (.c (.fn (.func 45) [] [])) [(.s 25)]),
 sq 27 (.call (.c (.fn (.func 44) [] [])) [(.s 24),(.s 26)]),
 sq 23 (.mv (.s 27)),
 sq 28 (.extr (.s 23) 0),
 sq 29 (.extr (.s 23) 1),
 sa 9 (.mv (.s 28)),
 sa 10 (.mv (.s 29))])
 (.seq (.seq (.reg [0,2,7,8,9,10] [sq 30 (.mv (.s 0)),
 sq 31 (.bin .lss .num (.s 30) (.c (.int .i64 1))),
 sq 32 (.mv (.s 31)),
 ⟨(some 33),.mv (.s 0),(some (32,false)),[],false⟩,
 ⟨(some 34),.bin .gtr .num (.s 33) (.c (.int .i64 3)),(some (32,false)),[],false⟩,
 sq 35 (.pick (.s 32) (.c (.bool true)) (.s 34))])
 (.cond (.s 35)
 (.seq (.reg [7,9,10] [sq 36 (.mv (.s 7)),
 sq 37 (.mv (.s 36)),
 ⟨(some 38),.mv (.s 10),(some (37,true)),[],false⟩,
 ⟨(some 39),.bin .eql .num (.s 38) (.c (.int .i64 10)),(some (37,true)),[],false⟩,
 sq 40 (.pick (.s 37) (.s 39) (.c (.bool false))),
 sq 41 (.mv (.s 40)),
 ⟨(some 42),.mv (.s 9),(some (41,true)),[],false⟩,
 ⟨(some 43),.bin .eql .ptr (.s 42) (.c .nilPtr),(some (41,true)),[],false⟩,
 sq 44 (.pick (.s 41) (.s 43) (.c (.bool false))),
 sa 6 (.mv (.s 44))])
 .ret)
 .skip))
 (.seq (.seq (.reg [0,2,7,8,9,10] [sq 45 (.mv (.s 0)),
 sq 46 (.bin .eql .num (.s 45) (.c (.int .i64 3))),
 sq 47 (.mv (.s 46)),
 ⟨(some 48),.load true 2 (.s 8),(some (47,true)),[],false⟩,
 ⟨(some 49),.call (.c (.fn (.func 46) [] [])) [(.s 48)],(some (47,true)),[],false⟩,
 ⟨(some 50),.bin .eql .num (.s 49) (.c (.int .i64 0)),(some (47,true)),[],false⟩,
 sq 51 (.pick (.s 47) (.s 50) (.c (.bool false)))])
 (.cond (.s 51)
 (.seq (.reg [7,9,10] [sq 52 (.mv (.s 7)),
 sq 53 (.mv (.s 52)),
 ⟨(some 54),.mv (.s 10),(some (53,true)),[],false⟩,
 ⟨(some 55),.bin .eql .num (.s 54) (.c (.int .i64 2)),(some (53,true)),[],false⟩,
 sq 56 (.pick (.s 53) (.s 55) (.c (.bool false))),
 sq 57 (.mv (.s 56)),
 ⟨(some 58),.mv (.s 9),(some (57,true)),[],false⟩,
 ⟨(some 59),.bin .eql .ptr (.s 58) (.c .nilPtr),(some (57,true)),[],false⟩,
 sq 60 (.pick (.s 57) (.s 59) (.c (.bool false))),
 sa 6 (.mv (.s 60))])
 .ret)
 .skip))
 (.seq (.seq (.reg [0,2,7,8,9,10] [sq 61 (.mv (.s 10)),
 sq 62 (.bin .neq .num (.s 61) (.c (.int .i64 0))),
 sq 63 (.mv (.s 62)),
 ⟨(some 64),.mv (.s 9),(some (63,false)),[],false⟩,
 ⟨(some 65),.bin .eql .ptr (.s 64) (.c .nilPtr),(some (63,false)),[],false⟩,
 sq 66 (.pick (.s 63) (.c (.bool true)) (.s 65))])
 (.cond (.s 66)
 (.seq (.reg [] [sa 6 (.mv (.c (.bool false)))])
 .ret)
 .skip))
 (.seq (.reg [0,2,7,8,9] [sq 67 (.mv (.s 0)),
 sq 68 (.build [(.int .i64 0),(.bool false),(.sl .nil [])] [(0,1,(.s 67))]),
 sq 11 (.alloc 3 (.agg [(.int .i64 0),(.bool false),(.sl .nil [])])),
 se (.store 3 (.s 11) (.s 68))])
 (.seq (.seq (.reg [0,2,7,8,9,11] [sq 69 (.mv (.s 0)),
 sq 70 (.bin .eql .num (.s 69) (.c (.int .i64 3)))])
 (.cond (.s 70)
 (.reg [0,2,7,8,9,11] [sq 71 (.load true 2 (.s 8)),
 sq 72 (.fldA 1 true 2 (.s 11)),
 se (.store 2 (.s 72) (.s 71))])
 .skip))
 (.seq (.draw [0,2,7,9,11] i10d0)
 (.seq (.draw [0,2,7,9,11,12] i10d1)
 (.seq (.draw [0,7,9,11,12,13] i10d2)
 .ret))))))))))))) }
theorem tr10 : trF Tryz.prog h10 Tryz.f10 = some i10:=by kernel_rfl
def h11 : List (List Nat):=[[0,1,2,3],[0,2,3,5],[0,2,3,5,9],[0,2,3,5,9],[2,3,9,10,11,12],[9],[2,3,9,10,11],[2,3,9,11,13,14],[9,13,14],[2,3,9,11,13,14],[9],[2,3,9,11,13,14],[3,9,11,13,14,15],[3,9,11,13,14,15,16],[3,9,11,13,14,15,16,17],[3,9,11,13,14,15,16,17],[3,9,11,13,14,15,16,17],[3,9,11,13,14,15,17],[3,9,11,13,14,15,16,17],[9,13,14],[3,9,11,13,14,15,16,17],[3,9,11,13,14,15,16,17],[9,13,14,16]]
def i11b0 : ICode :=
 (.seq (.seq (.reg [3,9,11,13,14,15,16,17] [sq 62 (.mv (.s 17)),
 sq 63 (.mv (.s 3)),
 sq 64 (.bin .lss .num (.s 62) (.s 63))])
 (.cond (.s 64)
 .skip
 (.exit 0)))
 (.seq (.block 1
 (.seq (.seq (.reg [3,9,11,13,14,15,16,17] [sq 67 (.mv (.s 17)),
 sq 68 (.bin .eql .num (.s 67) (.c (.int .i64 0)))])
 (.cond (.s 68)
 (.seq (.reg [3,9,11,13,14,15,17] [sq 69 (.mv (.s 15)),
 sa 16 (.mv (.s 69))])
 (.exit 1))
 .skip))
 (.seq (.seq (.reg [3,9,11,13,14,15,16,17] [sq 70 (.mv (.s 16)),
 sq 71 (.mv (.s 15)),
 sq 72 (.fldA 1 true 2 (.s 11)),
 sq 73 (.load true 2 (.s 72)),
 sq 74 (.call (.c (.fn (.func 19) [] [])) [(.s 70),(.s 71),(.s 73)]),
 sq 75 (.bin .gtr .num (.s 74) (.c (.int .i64 1048576)))])
 (.cond (.s 75)
 (.seq (.reg [9,13,14] [sq 76 (.mv (.s 9)),
 sq 77 (.mv (.s 76)),
 ⟨(some 78),.mv (.s 14),(some (77,true)),[],false⟩,
 ⟨(some 79),.bin .eql .num (.s 78) (.c (.int .i64 4)),(some (77,true)),[],false⟩,
 sq 80 (.pick (.s 77) (.s 79) (.c (.bool false))),
 sq 81 (.mv (.s 80)),
 ⟨(some 82),.mv (.s 13),(some (81,true)),[],false⟩,
 ⟨(some 83),.len false (.s 82),(some (81,true)),[],false⟩,
 ⟨(some 84),.bin .eql .num (.s 83) (.c (.int .i64 0)),(some (81,true)),[],false⟩,
 sq 85 (.pick (.s 81) (.s 84) (.c (.bool false))),
 sa 8 (.mv (.s 85))])
 .ret)
 .skip))
 (.reg [3,9,11,13,14,15,16,17] [sq 86 (.load true 3 (.s 11)),
 sq 87 (.mv (.s 16)),
 sq 88 (.mv (.s 15)),
 sq 89 (.call (.c (.fn (.func 21) [] [])) [(.s 86),(.s 87),(.s 88)]),
 sa 16 (.mv (.s 89))]))))
 (.reg [3,9,11,13,14,15,16,17] [sq 65 (.mv (.s 17)),
 sq 66 (.bin .add .num (.s 65) (.c (.int .i64 1))),
 sa 17 (.mv (.s 66))])))
def i11 : IFn:={ nparams:=4,ntmps:=100,results:=[.tmp 8],body :=
 (.seq (.reg [0,1,2,3] [sq 5 (.box 2 (.s 1)),
 sa 8 (.mv (.c (.bool false)))])
 (.seq (.reg [0,2,3,5] [sq 18 (.call (.c (.fn (.func 14) [] [])) []),
 sa 9 (.mv (.s 18))])
 (.seq (.reg [0,2,3,5,9] [sq 19 (.mv (.s 2)),
 sq 20 (.call (.c (.fn (.func 27) [] [])) [(.s 19),(.c (.int .i64 2)),(.c (.int .i64 3)),(.c (.int .i64 1))]),
 sa 2 (.mv (.s 20))])
 (.seq (.reg [0,2,3,5,9] [sq 22 (.mv (.s 0)),
 sq 23 (.load true 2 (.s 5)),
 sq 24 (.call (.c (.fn (.func 16) [] [])) [(.s 22),(.s 23)]),
 sq 21 (.mv (.s 24)),
 sq 25 (.extr (.s 21) 0),
 sq 26 (.extr (.s 21) 1),
 sq 27 (.extr (.s 21) 2),
 sq 11 (.alloc 3 (.agg [(.int .i64 0),(.bool false),(.sl .nil [])])),
 sa 10 (.mv (.s 25)),
 se (.store 3 (.s 11) (.s 26)),
 sa 12 (.mv (.s 27))])
 (.seq (.seq (.reg [2,3,9,10,11,12] [sq 28 (.mv (.s 12)),
 sq 29 (.un .not (.s 28))])
 (.cond (.s 29)
 (.seq (.reg [9] [sq 30 (.mv (.s 9)),
 sa 8 (.mv (.s 30))])
 .ret)
 .skip))
 (.seq (.reg [2,3,9,10,11] [sq 32 (.mv (.s 10)),
 sq 33 (.mv (.s 2)),
 sq 34 (.mv (.s 3)),
 sq 35 (.call (.c (.fn (.func 54) [] [])) [(.s 32),(.s 33),(.s 34)]),
 sq 31 (.mv (.s 35)),
 sq 36 (.extr (.s 31) 0),
 sq 37 (.extr (.s 31) 1),
 sa 13 (.mv (.s 36)),
 sa 14 (.mv (.s 37))])
 (.seq (.seq (.reg [2,3,9,11,13,14] [sq 38 (.mv (.s 3)),
 sq 39 (.bin .lss .num (.s 38) (.c (.int .i64 0))),
 sq 40 (.mv (.s 39)),
 ⟨(some 41),.mv (.s 3),(some (40,false)),[],false⟩,
 ⟨(some 42),.bin .gtr .num (.s 41) (.c (.int .i64 64)),(some (40,false)),[],false⟩,
 sq 43 (.pick (.s 40) (.c (.bool true)) (.s 42))])
 (.cond (.s 43)
 (.seq (.reg [9,13,14] [sq 44 (.mv (.s 9)),
 sq 45 (.mv (.s 44)),
 ⟨(some 46),.mv (.s 14),(some (45,true)),[],false⟩,
 ⟨(some 47),.bin .eql .num (.s 46) (.c (.int .i64 1)),(some (45,true)),[],false⟩,
 sq 48 (.pick (.s 45) (.s 47) (.c (.bool false))),
 sq 49 (.mv (.s 48)),
 ⟨(some 50),.mv (.s 13),(some (49,true)),[],false⟩,
 ⟨(some 51),.len false (.s 50),(some (49,true)),[],false⟩,
 ⟨(some 52),.bin .eql .num (.s 51) (.c (.int .i64 0)),(some (49,true)),[],false⟩,
 sq 53 (.pick (.s 49) (.s 52) (.c (.bool false))),
 sa 8 (.mv (.s 53))])
 .ret)
 .skip))
 (.seq (.seq (.reg [2,3,9,11,13,14] [sq 54 (.mv (.s 3)),
 sq 55 (.bin .gtr .num (.s 54) (.c (.int .i64 5)))])
 (.cond (.s 55)
 (.seq (.reg [9] [sq 56 (.mv (.s 9)),
 sa 8 (.mv (.s 56))])
 .ret)
 .skip))
 (.seq (.reg [2,3,9,11,13,14] [sq 57 (.mv (.s 2)),
 sq 58 (.call (.c (.fn (.func 17) [] [])) [(.s 57)]),
 sa 15 (.mv (.s 58))])
 (.seq (.reg [3,9,11,13,14,15] [sq 59 (.bsl 1 (.int .i64 0) 1 [(0,(.c (.int .i64 1)))]),
 sq 60 (.call (.c (.fn (.func 55) [] [])) [(.s 59)]),
 sq 61 (.bsl 1 (.sl .nil []) 1 [(0,(.s 60))]),
 sa 16 (.mv (.s 61))])
 (.seq (.seq (.reg [3,9,11,13,14,15,16] [sa 17 (.mv (.c (.int .i64 0)))])
 (.block 0
 (.loop [3,9,11,13,14,15,16,17] i11b0)))
 (.seq (.reg [9,13,14,16] [sq 90 (.mv (.s 9)),
 sq 91 (.mv (.s 90)),
 ⟨(some 92),.mv (.s 14),(some (91,true)),[],false⟩,
 ⟨(some 93),.bin .eql .num (.s 92) (.c (.int .i64 0)),(some (91,true)),[],false⟩,
 sq 94 (.pick (.s 91) (.s 93) (.c (.bool false))),
 sq 95 (.mv (.s 94)),
 ⟨(some 96),.mv (.s 13),(some (95,true)),[],false⟩,
 ⟨(some 97),.mv (.s 16),(some (95,true)),[],false⟩,
 ⟨(some 98),.call (.c (.fn (.func 20) [] [])) [(.s 96),(.s 97)],(some (95,true)),[],false⟩,
 sq 99 (.pick (.s 95) (.s 98) (.c (.bool false))),
 sa 8 (.mv (.s 99))])
 .ret)))))))))))) }
theorem tr11 : trF Tryz.prog h11 Tryz.f11 = some i11:=by kernel_rfl
def h12 : List (List Nat):=[[0,1,2],[0,1,2],[0,1,2,7],[0,1,2,7],[0,1,2,7,8,9],[0,1,2,7,8,9,10],[0,1,2,7,8,9,10,11],[0,1,7,8,9,10,11,12],[0,1,7,8,9,10,11,12,13],[0,1,7,8,9,10,11,12,13,14]]
def i12 : IFn:={ nparams:=3,ntmps:=103,results:=[.tmp 6],body :=
 (.seq (.reg [0,1,2] [sa 6 (.mv (.c (.bool false)))])
 (.seq (.reg [0,1,2] [sq 15 (.call (.c (.fn (.func 14) [] [])) []),
 sa 7 (.mv (.s 15))])
 (.seq (.reg [0,1,2,7] [sq 16 (.mv (.s 0)),
 sq 17 (.call (.c (.fn (.func 15) [] [])) [(.s 16)]),
 sq 18 (.mv (.s 1)),
 sq 19 (.call (.c (.fn (.func 15) [] [])) [(.s 18)]),
 sq 20 (.mv (.s 2)),
 sq 21 (.call (.c (.fn (.func 26) [] [])) [(.s 20),(.c (.int .i64 4)),(.c (.int .i64 2))]),
 sa 0 (.mv (.s 17)),
 sa 1 (.mv (.s 19)),
 sa 2 (.mv (.s 21))])
 (.seq (.reg [0,1,2,7] [sq 22 (.mv (.s 0)),
 sq 23 (.call (.c (.fn (.func 17) [] [])) [(.s 22)]),
 sq 24 (.mv (.s 1)),
 sq 25 (.call (.c (.fn (.func 17) [] [])) [(.s 24)]),
 sa 8 (.mv (.s 23)),
 sa 9 (.mv (.s 25))])
 (.seq (.reg [0,1,2,7,8,9] [sq 26 (.mv (.s 0)),
 sq 27 (.mv (.s 1)),
 sq 28 (.call (.c (.fn (.func 36) [] [])) [(.s 26),(.s 27)]),
 sq 29 (.mv (.s 8)),
 sq 30 (.mv (.s 9)),
 sq 31 (.call (.c (.fn (.func 56) [] [])) [(.s 29),(.s 30)]),
 sq 32 (.call (.c (.fn (.func 20) [] [])) [(.s 28),(.s 31)]),
 sa 10 (.mv (.s 32))])
 (.seq (.reg [0,1,2,7,8,9,10] [sq 33 (.mv (.s 0)),
 sq 34 (.mv (.s 1)),
 sq 35 (.call (.c (.fn (.func 57) [] [])) [(.s 33),(.s 34)]),
 sq 36 (.mv (.s 8)),
 sq 37 (.mv (.s 9)),
 sq 38 (.call (.c (.fn (.func 58) [] [])) [(.s 36),(.s 37)]),
 sq 39 (.call (.c (.fn (.func 20) [] [])) [(.s 35),(.s 38)]),
 sa 11 (.mv (.s 39))])
 (.seq (.reg [0,1,2,7,8,9,10,11] [sq 40 (.mv (.s 2)),
 sq 41 (.mv (.s 0)),
 sq 42 (.call (.c (.fn (.func 59) [] [])) [(.s 40),(.s 41)]),
 sq 43 (.mv (.s 2)),
 sq 44 (.call (.c (.fn (.func 25) [] [])) [(.s 43)]),
 sq 45 (.mv (.s 8)),
 sq 46 (.call (.c (.fn (.func 24) [] [])) [(.s 44),(.s 45)]),
 sq 47 (.call (.c (.fn (.func 20) [] [])) [(.s 42),(.s 46)]),
 sa 12 (.mv (.s 47))])
 (.seq (.reg [0,1,7,8,9,10,11,12] [sq 48 (.mv (.s 0)),
 sq 49 (.call (.c (.fn (.func 60) [] [])) [(.s 48)]),
 sq 50 (.mv (.s 8)),
 sq 51 (.call (.c (.fn (.func 20) [] [])) [(.s 49),(.s 50)]),
 sa 13 (.mv (.s 51))])
 (.seq (.reg [0,1,7,8,9,10,11,12,13] [sq 52 (.mv (.s 0)),
 sq 53 (.call (.c (.fn (.func 61) [] [])) [(.s 52)]),
 sq 54 (.mv (.s 8)),
 sq 55 (.call (.c (.fn (.func 62) [] [])) [(.s 54)]),
 sq 56 (.call (.c (.fn (.func 30) [] [])) [(.s 53),(.s 55)]),
 sa 14 (.mv (.s 56))])
 (.seq (.reg [0,1,7,8,9,10,11,12,13,14] [sq 57 (.mv (.s 7)),
 sq 58 (.mv (.s 57)),
 ⟨(some 59),.mv (.s 10),(some (58,true)),[],false⟩,
 sq 60 (.pick (.s 58) (.s 59) (.c (.bool false))),
 sq 61 (.mv (.s 60)),
 ⟨(some 62),.mv (.s 11),(some (61,true)),[],false⟩,
 sq 63 (.pick (.s 61) (.s 62) (.c (.bool false))),
 sq 64 (.mv (.s 63)),
 ⟨(some 65),.mv (.s 12),(some (64,true)),[],false⟩,
 sq 66 (.pick (.s 64) (.s 65) (.c (.bool false))),
 sq 67 (.mv (.s 66)),
 ⟨(some 68),.mv (.s 13),(some (67,true)),[],false⟩,
 sq 69 (.pick (.s 67) (.s 68) (.c (.bool false))),
 sq 70 (.mv (.s 69)),
 ⟨(some 71),.mv (.s 14),(some (70,true)),[],false⟩,
 sq 72 (.pick (.s 70) (.s 71) (.c (.bool false))),
 sq 73 (.mv (.s 72)),
 ⟨(some 74),.mv (.s 0),(some (73,true)),[],false⟩,
 ⟨(some 75),.call (.c (.fn (.func 37) [] [])) [(.s 74)],(some (73,true)),[],false⟩,
 ⟨(some 76),.mv (.s 8),(some (73,true)),[],false⟩,
 ⟨(some 77),.call (.c (.fn (.func 63) [] [])) [(.s 76)],(some (73,true)),[],false⟩,
 ⟨(some 78),.bin .eql .num (.s 75) (.s 77),(some (73,true)),[],false⟩,
 sq 79 (.pick (.s 73) (.s 78) (.c (.bool false))),
 sq 80 (.mv (.s 79)),
 ⟨(some 81),.mv (.s 0),(some (80,true)),[],false⟩,
 ⟨(some 82),.call (.c (.fn (.func 64) [] [])) [(.s 81)],(some (80,true)),[],false⟩,
 ⟨(some 83),.mv (.s 8),(some (80,true)),[],false⟩,
 ⟨(some 84),.call (.c (.fn (.func 65) [] [])) [(.s 83)],(some (80,true)),[],false⟩,
 ⟨(some 85),.bin .eql .num (.s 82) (.s 84),(some (80,true)),[],false⟩,
 sq 86 (.pick (.s 80) (.s 85) (.c (.bool false))),
 sq 87 (.mv (.s 86)),
 ⟨(some 88),.mv (.s 0),(some (87,true)),[],false⟩,
 ⟨(some 89),.call (.c (.fn (.func 66) [] [])) [(.s 88)],(some (87,true)),[],false⟩,
 ⟨(some 90),.mv (.s 8),(some (87,true)),[],false⟩,
 ⟨(some 91),.call (.c (.fn (.func 67) [] [])) [(.s 90)],(some (87,true)),[],false⟩,
 ⟨(some 92),.bin .eql .num (.s 89) (.s 91),(some (87,true)),[],false⟩,
 sq 93 (.pick (.s 87) (.s 92) (.c (.bool false))),
 sq 94 (.mv (.s 93)),
 ⟨(some 95),.mv (.s 0),(some (94,true)),[],false⟩,
 ⟨(some 96),.mv (.s 1),(some (94,true)),[],false⟩,
 ⟨(some 97),.call (.c (.fn (.func 38) [] [])) [(.s 95),(.s 96)],(some (94,true)),[],false⟩,
 ⟨(some 98),.mv (.s 8),(some (94,true)),[],false⟩,
 ⟨(some 99),.mv (.s 9),(some (94,true)),[],false⟩,
 ⟨(some 100),.call (.c (.fn (.func 68) [] [])) [(.s 98),(.s 99)],(some (94,true)),[],false⟩,
 ⟨(some 101),.bin .eql .bool (.s 97) (.s 100),(some (94,true)),[],false⟩,
 sq 102 (.pick (.s 94) (.s 101) (.c (.bool false))),
 sa 6 (.mv (.s 102))])
 .ret)))))))))) }
theorem tr12 : trF Tryz.prog h12 Tryz.f12 = some i12:=by kernel_rfl
def h13 : List (List Nat):=[[],[],[1],[1,2],[1,2,3,4],[1,2,3,4,5,6],[1,2,3,4,5,6,7,8]]
def i13 : IFn:={ nparams:=0,ntmps:=93,results:=[.tmp 0],body :=
 (.seq (.reg [] [sa 0 (.mv (.c (.bool false)))])
 (.seq (.reg [] [sa 1 (.mv (.c .nilPtr))])
 (.seq (.reg [1] [sq 9 (.bsl 1 (.int .i64 0) 1 [(0,(.c (.int .i64 1)))]),
 sq 10 (.call (.c (.fn (.func 55) [] [])) [(.s 9)]),
 sq 11 (.bsl 1 (.sl .nil []) 1 [(0,(.s 10))]),
 sq 12 (.call (.c (.fn (.func 69) [] [])) [(.s 11)]),
 sa 2 (.mv (.s 12))])
 (.seq (.reg [1,2] [sq 14 (.mv (.s 1)),
 sq 15 (.mv (.s 2)),
 sq 16 (.mv (.s 2)),
 sq 17 (.call (.c (.fn (.func 18) [] [])) [(.s 14),(.s 15),(.s 16)]),
 sq 13 (.mv (.s 17)),
 sq 18 (.extr (.s 13) 0),
 sq 19 (.extr (.s 13) 1),
 sa 3 (.mv (.s 18)),
 sa 4 (.mv (.s 19))])
 (.seq (.reg [1,2,3,4] [sq 21 (.mv (.s 1)),
 sq 22 (.mv (.s 2)),
 sq 23 (.call (.c (.fn (.func 54) [] [])) [(.s 21),(.s 22),(.c (.int .i64 2))]),
 sq 20 (.mv (.s 23)),
 sq 24 (.extr (.s 20) 0),
 sq 25 (.extr (.s 20) 1),
 sa 5 (.mv (.s 24)),
 sa 6 (.mv (.s 25))])
 (.seq (.reg [1,2,3,4,5,6] [sq 27 (.mv (.s 1)),
 sq 28 (.mv (.s 2)),
 sq 29 (.mv (.s 2)),
 sq 30 (.idxA 1 (.s 29) (.c (.int .i64 0))),
 sq 31 (.load false 1 (.s 30)),
 sq 32 (.call (.c (.fn (.func 33) [] [])) [(.s 27),(.s 28),(.s 31)]),
 sq 26 (.mv (.s 32)),
 sq 33 (.extr (.s 26) 0),
 sq 34 (.extr (.s 26) 1),
 sa 7 (.mv (.s 33)),
 sa 8 (.mv (.s 34))])
 (.seq (.reg [1,2,3,4,5,6,7,8] [sq 35 (.call (.c (.fn (.func 14) [] [])) []),
 sq 36 (.mv (.s 35)),
 ⟨(some 37),.mv (.s 4),(some (36,true)),[],false⟩,
 ⟨(some 38),.bin .eql .num (.s 37) (.c (.int .i64 1)),(some (36,true)),[],false⟩,
 sq 39 (.pick (.s 36) (.s 38) (.c (.bool false))),
 sq 40 (.mv (.s 39)),
 ⟨(some 41),.mv (.s 3),(some (40,true)),[],false⟩,
 ⟨(some 42),.len false (.s 41),(some (40,true)),[],false⟩,
 ⟨(some 43),.bin .eql .num (.s 42) (.c (.int .i64 0)),(some (40,true)),[],false⟩,
 sq 44 (.pick (.s 40) (.s 43) (.c (.bool false))),
 sq 45 (.mv (.s 44)),
 ⟨(some 46),.mv (.s 6),(some (45,true)),[],false⟩,
 ⟨(some 47),.bin .eql .num (.s 46) (.c (.int .i64 1)),(some (45,true)),[],false⟩,
 sq 48 (.pick (.s 45) (.s 47) (.c (.bool false))),
 sq 49 (.mv (.s 48)),
 ⟨(some 50),.mv (.s 5),(some (49,true)),[],false⟩,
 ⟨(some 51),.len false (.s 50),(some (49,true)),[],false⟩,
 ⟨(some 52),.bin .eql .num (.s 51) (.c (.int .i64 0)),(some (49,true)),[],false⟩,
 sq 53 (.pick (.s 49) (.s 52) (.c (.bool false))),
 sq 54 (.mv (.s 53)),
 ⟨(some 55),.mv (.s 8),(some (54,true)),[],false⟩,
 ⟨(some 56),.bin .eql .num (.s 55) (.c (.int .i64 1)),(some (54,true)),[],false⟩,
 sq 57 (.pick (.s 54) (.s 56) (.c (.bool false))),
 sq 58 (.mv (.s 57)),
 ⟨(some 59),.mv (.s 7),(some (58,true)),[],false⟩,
 ⟨(some 60),.len false (.s 59),(some (58,true)),[],false⟩,
 ⟨(some 61),.bin .eql .num (.s 60) (.c (.int .i64 0)),(some (58,true)),[],false⟩,
 sq 62 (.pick (.s 58) (.s 61) (.c (.bool false))),
 sq 63 (.mv (.s 62)),
 ⟨(some 64),.mv (.s 1),(some (63,true)),[],false⟩,
 ⟨(some 65),.call (.c (.fn (.func 51) [] [])) [(.s 64)],(some (63,true)),[],false⟩,
 ⟨(some 66),.bin .eql .num (.s 65) (.c (.int .i64 0)),(some (63,true)),[],false⟩,
 sq 67 (.pick (.s 63) (.s 66) (.c (.bool false))),
 sq 68 (.mv (.s 67)),
 ⟨(some 69),.mv (.s 1),(some (68,true)),[],false⟩,
 ⟨(some 70),.call (.c (.fn (.func 53) [] [])) [(.s 69)],(some (68,true)),[],false⟩,
 ⟨(some 71),.fld 1 false 1 (.s 70),(some (68,true)),[],false⟩,
 ⟨(some 72),.len false (.s 71),(some (68,true)),[],false⟩,
 ⟨(some 73),.bin .eql .num (.s 72) (.c (.int .i64 0)),(some (68,true)),[],false⟩,
 sq 74 (.pick (.s 68) (.s 73) (.c (.bool false))),
 sq 75 (.mv (.s 74)),
 ⟨(some 76),.mv (.s 1),(some (75,true)),[],false⟩,
 ⟨(some 77),.mv (.s 2),(some (75,true)),[],false⟩,
 ⟨(some 78),.idxA 1 (.s 77) (.c (.int .i64 0)),(some (75,true)),[],false⟩,
 ⟨(some 79),.load false 1 (.s 78),(some (75,true)),[],false⟩,
 ⟨(some 80),.call (.c (.fn (.func 47) [] [])) [(.s 76),(.s 79)],(some (75,true)),[],false⟩,
 ⟨(some 81),.len false (.s 80),(some (75,true)),[],false⟩,
 ⟨(some 82),.bin .eql .num (.s 81) (.c (.int .i64 0)),(some (75,true)),[],false⟩,
 sq 83 (.pick (.s 75) (.s 82) (.c (.bool false))),
 sq 84 (.mv (.s 83)),
 ⟨(some 85),.mv (.s 1),(some (84,true)),[],false⟩,
 ⟨(some 86),.mv (.s 2),(some (84,true)),[],false⟩,
 ⟨(some 87),.idxA 1 (.s 86) (.c (.int .i64 0)),(some (84,true)),[],false⟩,
 ⟨(some 88),.load false 1 (.s 87),(some (84,true)),[],false⟩,
 ⟨(some 89),.call (.c (.fn (.func 49) [] [])) [(.s 85),(.s 88)],(some (84,true)),[],false⟩,
 ⟨(some 90),.len false (.s 89),(some (84,true)),[],false⟩,
 ⟨(some 91),.bin .eql .num (.s 90) (.c (.int .i64 0)),(some (84,true)),[],false⟩,
 sq 92 (.pick (.s 84) (.s 91) (.c (.bool false))),
 sa 0 (.mv (.s 92))])
 .ret))))))) }
theorem tr13 : trF Tryz.prog h13 Tryz.f13 = some i13:=by kernel_rfl
def h14 : List (List Nat):=[[],[],[1,2],[],[1],[1,3],[1,3,4],[1,3,5,6],[1,3,5,6,7],[1,5,6,7,8,9]]
def i14 : IFn:={ nparams:=0,ntmps:=99,results:=[.tmp 0],body :=
 (.seq (.reg [] [sa 0 (.mv (.c (.bool false)))])
 (.seq (.reg [] [sq 11 (.build [(.bool false),(.sl .nil [])] []),
 sq 12 (.call (.c (.fn (.func 44) [] [])) [(.c (.int .i64 2)),(.s 11)]),
 sq 10 (.mv (.s 12)),
 sq 13 (.extr (.s 10) 0),
 sq 14 (.extr (.s 10) 1),
 sa 1 (.mv (.s 13)),
 sa 2 (.mv (.s 14))])
 (.seq (.seq (.reg [1,2] [sq 15 (.mv (.s 2)),
 sq 16 (.bin .neq .num (.s 15) (.c (.int .i64 0))),
 sq 17 (.mv (.s 16)),
 ⟨(some 18),.mv (.s 1),(some (17,false)),[],false⟩,
 ⟨(some 19),.bin .eql .ptr (.s 18) (.c .nilPtr),(some (17,false)),[],false⟩,
 sq 20 (.pick (.s 17) (.c (.bool true)) (.s 19))])
 (.cond (.s 20)
 (.seq (.reg [] [sa 0 (.mv (.c (.bool false)))])
 .ret)
 .skip))
 (.seq (.reg [1] [sq 21 (.bsl 1 (.int .i64 0) 1 [(0,(.c (.int .i64 1)))]),
 sq 22 (.call (.c (.fn (.func 55) [] [])) [(.s 21)]),
 sq 23 (.bsl 1 (.sl .nil []) 2 [(0,(.c (.sl .nil []))),(1,(.s 22))]),
 sq 24 (.call (.c (.fn (.func 69) [] [])) [(.s 23)]),
 sa 3 (.mv (.s 24))])
 (.seq (.reg [1,3] [sq 25 (.bsl 1 (.int .i64 0) 2 [(0,(.c (.int .i64 0))),(1,(.c (.int .i64 1)))]),
 sq 26 (.call (.c (.fn (.func 55) [] [])) [(.s 25)]),
 sq 27 (.bsl 1 (.sl .nil []) 1 [(0,(.s 26))]),
 sq 28 (.call (.c (.fn (.func 69) [] [])) [(.s 27)]),
 sa 4 (.mv (.s 28))])
 (.seq (.reg [1,3,4] [sq 30 (.mv (.s 1)),
 sq 31 (.mv (.s 3)),
 sq 32 (.mv (.s 4)),
 sq 33 (.call (.c (.fn (.func 18) [] [])) [(.s 30),(.s 31),(.s 32)]),
 sq 29 (.mv (.s 33)),
 sq 34 (.extr (.s 29) 0),
 sq 35 (.extr (.s 29) 1),
 sa 5 (.mv (.s 34)),
 sa 6 (.mv (.s 35))])
 (.seq (.reg [1,3,5,6] [sq 36 (.mv (.s 5)),
 sq 37 (.mv (.s 3)),
 sq 38 (.call (.c (.fn (.func 36) [] [])) [(.s 36),(.s 37)]),
 sa 7 (.mv (.s 38))])
 (.seq (.reg [1,3,5,6,7] [sq 40 (.mv (.s 1)),
 sq 41 (.mv (.s 3)),
 sq 42 (.bsl 1 (.int .i64 0) 3 [(0,(.c (.int .i64 0))),(1,(.c (.int .i64 0))),(2,(.c (.int .i64 1)))]),
 sq 43 (.call (.c (.fn (.func 55) [] [])) [(.s 42)]),
 sq 44 (.call (.c (.fn (.func 41) [] [])) [(.s 43)]),
 sq 45 (.call (.c (.fn (.func 33) [] [])) [(.s 40),(.s 41),(.s 44)]),
 sq 39 (.mv (.s 45)),
 sq 46 (.extr (.s 39) 0),
 sq 47 (.extr (.s 39) 1),
 sa 8 (.mv (.s 46)),
 sa 9 (.mv (.s 47))])
 (.seq (.reg [1,5,6,7,8,9] [sq 48 (.mv (.s 6)),
 sq 49 (.bin .eql .num (.s 48) (.c (.int .i64 0))),
 sq 50 (.mv (.s 49)),
 ⟨(some 51),.mv (.s 5),(some (50,true)),[],false⟩,
 ⟨(some 52),.len false (.s 51),(some (50,true)),[],false⟩,
 ⟨(some 53),.bin .eql .num (.s 52) (.c (.int .i64 2)),(some (50,true)),[],false⟩,
 sq 54 (.pick (.s 50) (.s 53) (.c (.bool false))),
 sq 55 (.mv (.s 54)),
 ⟨(some 56),.mv (.s 5),(some (55,true)),[],false⟩,
 ⟨(some 57),.idxA 1 (.s 56) (.c (.int .i64 1)),(some (55,true)),[],false⟩,
 ⟨(some 58),.load false 1 (.s 57),(some (55,true)),[],false⟩,
 ⟨(some 59),.len false (.s 58),(some (55,true)),[],false⟩,
 ⟨(some 60),.bin .eql .num (.s 59) (.c (.int .i64 2)),(some (55,true)),[],false⟩,
 sq 61 (.pick (.s 55) (.s 60) (.c (.bool false))),
 sq 62 (.mv (.s 61)),
 ⟨(some 63),.mv (.s 5),(some (62,true)),[],false⟩,
 ⟨(some 64),.idxA 1 (.s 63) (.c (.int .i64 0)),(some (62,true)),[],false⟩,
 ⟨(some 65),.load false 1 (.s 64),(some (62,true)),[],false⟩,
 ⟨(some 66),.len false (.s 65),(some (62,true)),[],false⟩,
 ⟨(some 67),.bin .eql .num (.s 66) (.c (.int .i64 1)),(some (62,true)),[],false⟩,
 sq 68 (.pick (.s 62) (.s 67) (.c (.bool false))),
 sq 69 (.mv (.s 68)),
 ⟨(some 70),.mv (.s 7),(some (69,true)),[],false⟩,
 ⟨(some 71),.len false (.s 70),(some (69,true)),[],false⟩,
 ⟨(some 72),.bin .eql .num (.s 71) (.c (.int .i64 2)),(some (69,true)),[],false⟩,
 sq 73 (.pick (.s 69) (.s 72) (.c (.bool false))),
 sq 74 (.mv (.s 73)),
 ⟨(some 75),.mv (.s 9),(some (74,true)),[],false⟩,
 ⟨(some 76),.bin .eql .num (.s 75) (.c (.int .i64 0)),(some (74,true)),[],false⟩,
 sq 77 (.pick (.s 74) (.s 76) (.c (.bool false))),
 sq 78 (.mv (.s 77)),
 ⟨(some 79),.mv (.s 8),(some (78,true)),[],false⟩,
 ⟨(some 80),.len false (.s 79),(some (78,true)),[],false⟩,
 ⟨(some 81),.bin .eql .num (.s 80) (.c (.int .i64 2)),(some (78,true)),[],false⟩,
 sq 82 (.pick (.s 78) (.s 81) (.c (.bool false))),
 sq 83 (.mv (.s 82)),
 ⟨(some 84),.mv (.s 5),(some (83,true)),[],false⟩,
 ⟨(some 85),.call (.c (.fn (.func 37) [] [])) [(.s 84)],(some (83,true)),[],false⟩,
 ⟨(some 86),.bin .eql .num (.s 85) (.c (.int .i64 1)),(some (83,true)),[],false⟩,
 sq 87 (.pick (.s 83) (.s 86) (.c (.bool false))),
 sq 88 (.mv (.s 87)),
 ⟨(some 89),.mv (.s 5),(some (88,true)),[],false⟩,
 ⟨(some 90),.call (.c (.fn (.func 29) [] [])) [(.s 89)],(some (88,true)),[],false⟩,
 ⟨(some 91),.mv (.s 5),(some (88,true)),[],false⟩,
 ⟨(some 92),.call (.c (.fn (.func 38) [] [])) [(.s 90),(.s 91)],(some (88,true)),[],false⟩,
 sq 93 (.pick (.s 88) (.s 92) (.c (.bool false))),
 sq 94 (.mv (.s 93)),
 ⟨(some 95),.mv (.s 1),(some (94,true)),[],false⟩,
 ⟨(some 96),.call (.c (.fn (.func 51) [] [])) [(.s 95)],(some (94,true)),[],false⟩,
 ⟨(some 97),.bin .eql .num (.s 96) (.c (.int .i64 2)),(some (94,true)),[],false⟩,
 sq 98 (.pick (.s 94) (.s 97) (.c (.bool false))),
 sa 0 (.mv (.s 98))])
 .ret))))))))) }
theorem tr14 : trF Tryz.prog h14 Tryz.f14 = some i14:=by kernel_rfl
def h15 : List (List Nat):=[[0],[0]]
def i15 : IFn:={ nparams:=1,ntmps:=5,results:=[.tmp 2],body :=
 (.seq (.reg [0] [sa 2 (.mv (.c (.sl .nil [])))])
 (.seq (.reg [0] [sq 3 (.mv (.s 0)),
 sq 4 (.call (.c (.fn (.func 27) [] [])) [(.s 3),(.c (.int .i64 4)),(.c (.int .i64 4)),(.c (.int .i64 2))]),
 sa 2 (.mv (.s 4))])
 .ret)) }
theorem tr15 : trF Tryz.prog h15 Tryz.f15 = some i15:=by kernel_rfl
def h16 : List (List Nat):=[[0,1],[0,3,5],[0,5,7],[0,5,7,8,9],[5],[0,5,7,8],[0,5,7,8,10],[0,5,7,8,10],[0,5,8,10]]
def i16d0 : List IStep:=[sq 34 (.mv (.s 8)),
 sq 35 (.mv (.s 0)),
 sq 36 (.load true 2 (.s 10)),
 ⟨(some 37),.build [(.int .i64 0),(.bool false),(.sl .nil [])] [(0,1,(.s 35)),(1,2,(.s 36))],none,[1,2],false⟩,
 ⟨(some 4),.mv (.s 34),none,[0],true⟩,
 ⟨none,.store 3 (.s 5) (.s 37),none,[3,4,0,1,2],false⟩,
 ⟨(some 6),.mv (.c (.bool true)),none,[5,0,1,2,3,4],true⟩]
theorem i16d0t : tame i16d0 = true:=by kernel_rfl
def i16 : IFn:={ nparams:=2,ntmps:=38,results:=[.tmp 4,.cell 5 true 3,.tmp 6],body :=
 (.seq (.reg [0,1] [sq 3 (.box 2 (.s 1)),
 sa 4 (.mv (.c .nilPtr)),
 sq 5 (.alloc 3 (.agg [(.int .i64 0),(.bool false),(.sl .nil [])])),
 sa 6 (.mv (.c (.bool false)))])
 (.seq (.reg [0,3,5] [sq 11 (.load true 2 (.s 3)),
 sq 12 (.bsl 2 (.agg [(.bool false),(.sl .nil [])]) 1 [(0,(.s 11))]),
 sq 13 (.call (.c (.fn (.func 26) [] [])) [(.s 12),(.c (.int .i64 1)),(.c (.int .i64 1))]),
 sq 14 (.idxA 2 (.s 13) (.c (.int .i64 0))),
 sq 15 (.load true 2 (.s 14)),
 sq 7 (.alloc 2 (.agg [(.bool false),(.sl .nil [])])),
 se (.store 2 (.s 7) (.s 15))])
 (.seq (.reg [0,5,7] [sq 17 (.mv (.s 0)),
 sq 18 (.load true 2 (.s 7)),
 sq 19 (.call (.c (.fn (.func 44) [] [])) [(.s 17),(.s 18)]),
 sq 16 (.mv (.s 19)),
 sq 20 (.extr (.s 16) 0),
 sq 21 (.extr (.s 16) 1),
 sa 8 (.mv (.s 20)),
 sa 9 (.mv (.s 21))])
 (.seq (.seq (.reg [0,5,7,8,9] [sq 22 (.mv (.s 9)),
 sq 23 (.bin .neq .num (.s 22) (.c (.int .i64 0))),
 sq 24 (.mv (.s 23)),
 ⟨(some 25),.mv (.s 8),(some (24,false)),[],false⟩,
 ⟨(some 26),.bin .eql .ptr (.s 25) (.c .nilPtr),(some (24,false)),[],false⟩,
 sq 27 (.pick (.s 24) (.c (.bool true)) (.s 26))])
 (.cond (.s 27)
 (.seq (.reg [5] [sq 28 (.build [(.int .i64 0),(.bool false),(.sl .nil [])] []),
 sa 4 (.mv (.c .nilPtr)),
 se (.store 3 (.s 5) (.s 28)),
 sa 6 (.mv (.c (.bool false)))])
 .ret)
 .skip))
 (.seq (.reg [0,5,7,8] [sq 29 (.call (.c (.fn (.func 22) [] [])) [(.c (.int .i64 0))]),
 sq 10 (.alloc 2 (.agg [(.bool false),(.sl .nil [])])),
 se (.store 2 (.s 10) (.s 29))])
 (.seq (.seq (.reg [0,5,7,8,10] [sq 30 (.mv (.s 0)),
 sq 31 (.bin .eql .num (.s 30) (.c (.int .i64 3)))])
 (.cond (.s 31)
 (.reg [0,5,7,8,10] [sq 32 (.load true 2 (.s 7)),
 sq 33 (.call (.c (.fn (.func 43) [] [])) [(.s 32)]),
 se (.store 2 (.s 10) (.s 33))])
 .skip))
 (.seq (.draw [0,5,8,10] i16d0)
 .ret))))))) }
theorem tr16 : trF Tryz.prog h16 Tryz.f16 = some i16:=by kernel_rfl
def h17 : List (List Nat):=[[0],[0],[0,3],[0,3,4],[0,3,4],[0,3,4],[0,3,4],[3]]
def i17b0 : ICode :=
 (.seq (.seq (.reg [0,3,4] [sq 5 (.mv (.s 4)),
 sq 6 (.mv (.s 0)),
 sq 7 (.len false (.s 6)),
 sq 8 (.bin .lss .num (.s 5) (.s 7))])
 (.cond (.s 8)
 .skip
 (.exit 0)))
 (.seq (.block 1
 (.reg [0,3,4] [sq 11 (.mv (.s 3)),
 sq 12 (.mv (.s 0)),
 sq 13 (.mv (.s 4)),
 sq 14 (.idxA 1 (.s 12) (.s 13)),
 sq 15 (.load false 1 (.s 14)),
 sq 16 (.call (.c (.fn (.func 25) [] [])) [(.s 15)]),
 sq 17 (.bsl 1 (.sl .nil []) 1 [(0,(.s 16))]),
 sq 18 (.app 1 24 (.s 11) (.s 17)),
 sa 3 (.mv (.s 18))]))
 (.reg [0,3,4] [sq 9 (.mv (.s 4)),
 sq 10 (.bin .add .num (.s 9) (.c (.int .i64 1))),
 sa 4 (.mv (.s 10))])))
def i17 : IFn:={ nparams:=1,ntmps:=21,results:=[.tmp 2],body :=
 (.seq (.reg [0] [sa 2 (.mv (.c (.sl .nil [])))])
 (.seq (.reg [0] [sa 3 (.mv (.c (.sl .nil [])))])
 (.seq (.seq (.reg [0,3] [sa 4 (.mv (.c (.int .i64 0)))])
 (.block 0
 (.loop [0,3,4] i17b0)))
 (.seq (.reg [3] [sq 19 (.mv (.s 3)),
 sq 20 (.call (.c (.fn (.func 70) [] [])) [(.s 19)]),
 sa 2 (.mv (.s 20))])
 .ret)))) }
theorem tr17 : trF Tryz.prog h17 Tryz.f17 = some i17:=by kernel_rfl
def h18 : List (List Nat):=[[0,1,2],[0,1,2],[],[0,1,2],[],[0,1,2]]
def i18 : IFn:={ nparams:=3,ntmps:=27,results:=[.tmp 6,.tmp 7],body :=
 (.seq (.reg [0,1,2] [sa 6 (.mv (.c (.sl .nil []))),
 sa 7 (.mv (.c (.int .i64 0)))])
 (.seq (.block 0
 (.seq (.reg [0,1,2] [sq 9 (.mv (.s 0)),
 sq 10 (.bin .eql .ptr (.s 9) (.c .nilPtr)),
 sa 8 (.mv (.s 10))])
 (.cond (.s 8)
 (.seq (.reg [] [sa 6 (.mv (.c (.sl .nil []))),
 sa 7 (.mv (.c (.int .i64 1)))])
 .ret)
 (.seq (.reg [0,1,2] [sq 12 (.mv (.s 1)),
 sq 13 (.mv (.s 2)),
 sq 14 (.mv (.s 0)),
 sq 15 (.nilc (.s 14)),
 sq 16 (.fldA 1 true 2 (.s 15)),
 sq 17 (.load true 2 (.s 16)),
 sq 18 (.call (.c (.fn (.func 71) [] [])) [(.s 12),(.s 13),(.s 17)]),
 sq 19 (.bin .gtr .num (.s 18) (.c (.int .i64 1048576))),
 sa 11 (.mv (.s 19))])
 (.cond (.s 11)
 (.seq (.reg [] [sa 6 (.mv (.c (.sl .nil []))),
 sa 7 (.mv (.c (.int .i64 4)))])
 .ret)
 .skip)))))
 (.seq (.reg [0,1,2] [sq 20 (.mv (.s 1)),
 sq 21 (.mv (.s 2)),
 sq 22 (.mv (.s 0)),
 sq 23 (.mkfn (.func 47) [(.s 22)] []),
 sq 24 (.mv (.s 0)),
 sq 25 (.mkfn (.func 49) [(.s 24)] []),
 sq 26 (.call (.c (.fn (.func 72) [] [])) [(.s 20),(.s 21),(.s 23),(.s 25)]),
 sa 6 (.mv (.s 26)),
 sa 7 (.mv (.c (.int .i64 0)))])
 .ret))) }
theorem tr18 : trF Tryz.prog h18 Tryz.f18 = some i18:=by kernel_rfl
def h19 : List (List Nat):=[[0,1,2],[0,1,5],[1,5,7,8,9],[5,7,8,9,10,11,12],[7,8,9,10,11,12,13]]
def i19 : IFn:={ nparams:=3,ntmps:=53,results:=[.tmp 6],body :=
 (.seq (.reg [0,1,2] [sq 5 (.box 2 (.s 2)),
 sa 6 (.mv (.c (.int .i64 0)))])
 (.seq (.reg [0,1,5] [sq 15 (.mv (.s 0)),
 sq 16 (.call (.c (.fn (.func 73) [] [])) [(.s 15)]),
 sq 14 (.mv (.s 16)),
 sq 17 (.extr (.s 14) 0),
 sq 18 (.extr (.s 14) 1),
 sq 19 (.extr (.s 14) 2),
 sa 7 (.mv (.s 17)),
 sa 8 (.mv (.s 18)),
 sa 9 (.mv (.s 19))])
 (.seq (.reg [1,5,7,8,9] [sq 21 (.mv (.s 1)),
 sq 22 (.call (.c (.fn (.func 73) [] [])) [(.s 21)]),
 sq 20 (.mv (.s 22)),
 sq 23 (.extr (.s 20) 0),
 sq 24 (.extr (.s 20) 1),
 sq 25 (.extr (.s 20) 2),
 sa 10 (.mv (.s 23)),
 sa 11 (.mv (.s 24)),
 sa 12 (.mv (.s 25))])
 (.seq (.reg [5,7,8,9,10,11,12] [sq 26 (.load true 2 (.s 5)),
 sq 27 (.call (.c (.fn (.func 74) [] [])) [(.s 26)]),
 sa 13 (.mv (.s 27))])
 (.seq (.reg [7,8,9,10,11,12,13] [sq 28 (.mv (.s 7)),
 sq 29 (.bin .add .num (.s 28) (.c (.int .i64 1))),
 sq 30 (.mv (.s 10)),
 sq 31 (.bin .add .num (.s 30) (.c (.int .i64 1))),
 sq 32 (.mv (.s 8)),
 sq 33 (.mv (.s 11)),
 sq 34 (.bin .add .num (.s 32) (.s 33)),
 sq 35 (.bin .add .num (.s 34) (.c (.int .i64 2))),
 sq 36 (.mv (.s 9)),
 sq 37 (.mv (.s 12)),
 sq 38 (.mv (.s 7)),
 sq 39 (.bin .add .num (.s 38) (.c (.int .i64 1))),
 sq 40 (.mv (.s 11)),
 sq 41 (.bin .add .num (.s 40) (.c (.int .i64 1))),
 sq 42 (.call (.c (.fn (.func 77) [] [])) [(.s 39),(.s 41)]),
 sq 43 (.mv (.s 7)),
 sq 44 (.mv (.s 11)),
 sq 45 (.bin .add .num (.s 44) (.c (.int .i64 1))),
 sq 46 (.call (.c (.fn (.func 77) [] [])) [(.s 43),(.s 45)]),
 sq 47 (.mv (.s 13)),
 sq 48 (.call (.c (.fn (.func 77) [] [])) [(.s 46),(.s 47)]),
 sq 49 (.bsl 1 (.int .i64 0) 5 [(0,(.s 36)),(1,(.s 37)),(2,(.s 42)),(3,(.s 48)),(4,(.c (.int .i64 8)))]),
 sq 50 (.call (.c (.fn (.func 76) [] [])) [(.s 49)]),
 sq 51 (.bsl 1 (.int .i64 0) 4 [(0,(.s 29)),(1,(.s 31)),(2,(.s 35)),(3,(.s 50))]),
 sq 52 (.call (.c (.fn (.func 75) [] [])) [(.s 51)]),
 sa 6 (.mv (.s 52))])
 .ret))))) }
theorem tr19 : trF Tryz.prog h19 Tryz.f19 = some i19:=by kernel_rfl
def h20 : List (List Nat):=[[0,1],[0,1],[],[0,1],[0,1,5],[0,1,5],[0,1,5],[0,1,5,6],[],[0,1,5],[]]
def i20d0 : List IStep:=[sq 18 (.mv (.s 0)),
 sq 19 (.mv (.s 5)),
 ⟨(some 20),.idxA 1 (.s 18) (.s 19),none,[0,1],false⟩,
 ⟨(some 21),.load false 1 (.s 20),none,[2],false⟩,
 sq 22 (.mv (.s 1)),
 sq 23 (.mv (.s 5)),
 ⟨(some 24),.idxA 1 (.s 22) (.s 23),none,[4,5],false⟩,
 ⟨(some 25),.load false 1 (.s 24),none,[6],false⟩,
 ⟨(some 26),.call (.c (.fn (.func 30) [] [])) [(.s 21),(.s 25)],none,[3,7],false⟩,
 ⟨(some 6),.mv (.s 26),none,[8,0,1,2,3,4,5,6,7],true⟩]
theorem i20d0t : tame i20d0 = true:=by kernel_rfl
def i20b0 : ICode :=
 (.seq (.seq (.reg [0,1,5] [sq 12 (.mv (.s 5)),
 sq 13 (.mv (.s 0)),
 sq 14 (.len false (.s 13)),
 sq 15 (.bin .lss .num (.s 12) (.s 14))])
 (.cond (.s 15)
 .skip
 (.exit 0)))
 (.seq (.block 1
 (.seq (.draw [0,1,5] i20d0)
 (.seq (.reg [0,1,5,6] [sq 27 (.mv (.s 6)),
 sq 28 (.un .not (.s 27))])
 (.cond (.s 28)
 (.seq (.reg [] [sa 4 (.mv (.c (.bool false)))])
 .ret)
 .skip))))
 (.reg [0,1,5] [sq 16 (.mv (.s 5)),
 sq 17 (.bin .add .num (.s 16) (.c (.int .i64 1))),
 sa 5 (.mv (.s 17))])))
def i20 : IFn:={ nparams:=2,ntmps:=29,results:=[.tmp 4],body :=
 (.seq (.reg [0,1] [sa 4 (.mv (.c (.bool false)))])
 (.seq (.seq (.reg [0,1] [sq 7 (.mv (.s 0)),
 sq 8 (.len false (.s 7)),
 sq 9 (.mv (.s 1)),
 sq 10 (.len false (.s 9)),
 sq 11 (.bin .neq .num (.s 8) (.s 10))])
 (.cond (.s 11)
 (.seq (.reg [] [sa 4 (.mv (.c (.bool false)))])
 .ret)
 .skip))
 (.seq (.seq (.reg [0,1] [sa 5 (.mv (.c (.int .i64 0)))])
 (.block 0
 (.loop [0,1,5] i20b0)))
 (.seq (.reg [] [sa 4 (.mv (.c (.bool true)))])
 .ret)))) }
theorem tr20 : trF Tryz.prog h20 Tryz.f20 = some i20:=by kernel_rfl
def h21 : List (List Nat):=[[0,1,2],[1,2,3],[1,2,3,7],[1,2,3,7,8],[1,2,3,7,8],[1,2,3,7,8],[1,2,3,7,8],[1,2,3,7,8],[1,2,3,7,8],[7]]
def i21b0 : ICode :=
 (.seq (.seq (.reg [1,2,3,7,8] [sq 9 (.mv (.s 8)),
 sq 10 (.mv (.s 1)),
 sq 11 (.len false (.s 10)),
 sq 12 (.bin .lss .num (.s 9) (.s 11))])
 (.cond (.s 12)
 .skip
 (.exit 0)))
 (.seq (.block 1
 (.seq (.seq (.reg [1,2,3,7,8] [sq 15 (.mv (.s 8)),
 sq 16 (.bin .gtr .num (.s 15) (.c (.int .i64 0)))])
 (.cond (.s 16)
 (.reg [1,2,3,7,8] [sq 17 (.load true 3 (.s 3)),
 sq 18 (.mv (.s 2)),
 sq 19 (.call (.c (.fn (.func 78) [] [])) [(.s 17),(.s 18)]),
 sa 2 (.mv (.s 19))])
 .skip))
 (.reg [1,2,3,7,8] [sq 20 (.mv (.s 7)),
 sq 21 (.mv (.s 1)),
 sq 22 (.mv (.s 8)),
 sq 23 (.idxA 1 (.s 21) (.s 22)),
 sq 24 (.load false 1 (.s 23)),
 sq 25 (.mv (.s 2)),
 sq 26 (.call (.c (.fn (.func 24) [] [])) [(.s 24),(.s 25)]),
 sq 27 (.call (.c (.fn (.func 56) [] [])) [(.s 20),(.s 26)]),
 sa 7 (.mv (.s 27))])))
 (.reg [1,2,3,7,8] [sq 13 (.mv (.s 8)),
 sq 14 (.bin .add .num (.s 13) (.c (.int .i64 1))),
 sa 8 (.mv (.s 14))])))
def i21 : IFn:={ nparams:=3,ntmps:=29,results:=[.tmp 6],body :=
 (.seq (.reg [0,1,2] [sq 3 (.box 3 (.s 0)),
 sa 6 (.mv (.c (.sl .nil [])))])
 (.seq (.reg [1,2,3] [sa 7 (.mv (.c (.sl .nil [])))])
 (.seq (.seq (.reg [1,2,3,7] [sa 8 (.mv (.c (.int .i64 0)))])
 (.block 0
 (.loop [1,2,3,7,8] i21b0)))
 (.seq (.reg [7] [sq 28 (.mv (.s 7)),
 sa 6 (.mv (.s 28))])
 .ret)))) }
theorem tr21 : trF Tryz.prog h21 Tryz.f21 = some i21:=by kernel_rfl
def h22 : List (List Nat):=[[0],[0,2],[0,2,3],[0,2,3,4],[0,2,3,4],[0,2,3,4],[0,2,3,4,5],[0,2,3,4,5],[0,2,3,4,5],[0,2,3,4,5],[2,3,4]]
def i22b0 : ICode :=
 (.seq (.seq (.reg [0,2,3,4] [sq 8 (.mv (.s 0)),
 sq 9 (.bin .neq .num (.s 8) (.c (.int .i64 0)))])
 (.cond (.s 9)
 .skip
 (.exit 0)))
 (.block 1
 (.seq (.reg [0,2,3,4] [sq 10 (.mv (.s 0)),
 sq 11 (.bin .rem .num (.s 10) (.c (.int .i64 65536))),
 sa 5 (.mv (.s 11))])
 (.seq (.reg [0,2,3,4,5] [sq 12 (.mv (.s 0)),
 sq 13 (.bin .quo .num (.s 12) (.c (.int .i64 65536))),
 sa 0 (.mv (.s 13))])
 (.seq (.seq (.reg [0,2,3,4,5] [sq 14 (.mv (.s 5)),
 sq 15 (.bin .lss .num (.s 14) (.c (.int .i64 0)))])
 (.cond (.s 15)
 (.reg [0,2,3,4,5] [sq 16 (.mv (.s 5)),
 sq 17 (.un .neg (.s 16)),
 sa 5 (.mv (.s 17))])
 .skip))
 (.reg [0,2,3,4,5] [sq 18 (.mv (.s 4)),
 sq 19 (.mv (.s 5)),
 sq 20 (.bsl 1 (.int .i64 0) 1 [(0,(.s 19))]),
 sq 21 (.app 1 8 (.s 18) (.s 20)),
 sa 4 (.mv (.s 21))]))))))
def i22 : IFn:={ nparams:=1,ntmps:=25,results:=[.cell 2 true 2],body :=
 (.seq (.reg [0] [sq 2 (.alloc 2 (.agg [(.bool false),(.sl .nil [])]))])
 (.seq (.reg [0,2] [sq 6 (.mv (.s 0)),
 sq 7 (.bin .lss .num (.s 6) (.c (.int .i64 0))),
 sa 3 (.mv (.s 7))])
 (.seq (.reg [0,2,3] [sa 4 (.mv (.c (.sl .nil [])))])
 (.seq (.block 0
 (.loop [0,2,3,4] i22b0))
 (.seq (.reg [2,3,4] [sq 22 (.mv (.s 3)),
 sq 23 (.mv (.s 4)),
 sq 24 (.call (.c (.fn (.func 79) [] [])) [(.s 22),(.s 23)]),
 se (.store 2 (.s 2) (.s 24))])
 .ret))))) }
theorem tr22 : trF Tryz.prog h22 Tryz.f22 = some i22:=by kernel_rfl
def h23 : List (List Nat):=[[0],[0],[0,3],[0,3,4],[0,3,4],[0,3,4],[0,3,4],[3]]
def i23b0 : ICode :=
 (.seq (.seq (.reg [0,3,4] [sq 5 (.mv (.s 4)),
 sq 6 (.mv (.s 0)),
 sq 7 (.len false (.s 6)),
 sq 8 (.bin .lss .num (.s 5) (.s 7))])
 (.cond (.s 8)
 .skip
 (.exit 0)))
 (.seq (.block 1
 (.reg [0,3,4] [sq 11 (.mv (.s 3)),
 sq 12 (.mv (.s 0)),
 sq 13 (.mv (.s 4)),
 sq 14 (.idxA 1 (.s 12) (.s 13)),
 sq 15 (.load false 1 (.s 14)),
 sq 16 (.call (.c (.fn (.func 41) [] [])) [(.s 15)]),
 sq 17 (.bsl 1 (.sl .nil []) 1 [(0,(.s 16))]),
 sq 18 (.app 1 24 (.s 11) (.s 17)),
 sa 3 (.mv (.s 18))]))
 (.reg [0,3,4] [sq 9 (.mv (.s 4)),
 sq 10 (.bin .add .num (.s 9) (.c (.int .i64 1))),
 sa 4 (.mv (.s 10))])))
def i23 : IFn:={ nparams:=1,ntmps:=20,results:=[.tmp 2],body :=
 (.seq (.reg [0] [sa 2 (.mv (.c (.sl .nil [])))])
 (.seq (.reg [0] [sa 3 (.mv (.c (.sl .nil [])))])
 (.seq (.seq (.reg [0,3] [sa 4 (.mv (.c (.int .i64 0)))])
 (.block 0
 (.loop [0,3,4] i23b0)))
 (.seq (.reg [3] [sq 19 (.mv (.s 3)),
 sa 2 (.mv (.s 19))])
 .ret)))) }
theorem tr23 : trF Tryz.prog h23 Tryz.f23 = some i23:=by kernel_rfl
def h24 : List (List Nat):=[[0,1],[0,1],[0,1,5],[0,1,5,6],[0,1,5,6],[0,1,5,6],[0,1,5,6],[5]]
def i24b0 : ICode :=
 (.seq (.seq (.reg [0,1,5,6] [sq 7 (.mv (.s 6)),
 sq 8 (.mv (.s 1)),
 sq 9 (.len false (.s 8)),
 sq 10 (.bin .lss .num (.s 7) (.s 9))])
 (.cond (.s 10)
 .skip
 (.exit 0)))
 (.seq (.block 1
 (.reg [0,1,5,6] [sq 13 (.mv (.s 5)),
 sq 14 (.mv (.s 0)),
 sq 15 (.mv (.s 1)),
 sq 16 (.mv (.s 6)),
 sq 17 (.idxA 1 (.s 15) (.s 16)),
 sq 18 (.load false 1 (.s 17)),
 sq 19 (.call (.c (.fn (.func 42) [] [])) [(.s 14),(.s 18)]),
 sq 20 (.bsl 1 (.sl .nil []) 1 [(0,(.s 19))]),
 sq 21 (.app 1 24 (.s 13) (.s 20)),
 sa 5 (.mv (.s 21))]))
 (.reg [0,1,5,6] [sq 11 (.mv (.s 6)),
 sq 12 (.bin .add .num (.s 11) (.c (.int .i64 1))),
 sa 6 (.mv (.s 12))])))
def i24 : IFn:={ nparams:=2,ntmps:=24,results:=[.tmp 4],body :=
 (.seq (.reg [0,1] [sa 4 (.mv (.c (.sl .nil [])))])
 (.seq (.reg [0,1] [sa 5 (.mv (.c (.sl .nil [])))])
 (.seq (.seq (.reg [0,1,5] [sa 6 (.mv (.c (.int .i64 0)))])
 (.block 0
 (.loop [0,1,5,6] i24b0)))
 (.seq (.reg [5] [sq 22 (.mv (.s 5)),
 sq 23 (.call (.c (.fn (.func 70) [] [])) [(.s 22)]),
 sa 4 (.mv (.s 23))])
 .ret)))) }
theorem tr24 : trF Tryz.prog h24 Tryz.f24 = some i24:=by kernel_rfl
def h25 : List (List Nat):=[[0],[0],[0,3],[0,3,4],[0,3,4],[0,3,4],[0,3,4],[3]]
def i25b0 : ICode :=
 (.seq (.seq (.reg [0,3,4] [sq 5 (.mv (.s 4)),
 sq 6 (.mv (.s 0)),
 sq 7 (.len false (.s 6)),
 sq 8 (.bin .lss .num (.s 5) (.s 7))])
 (.cond (.s 8)
 .skip
 (.exit 0)))
 (.seq (.block 1
 (.reg [0,3,4] [sq 11 (.mv (.s 3)),
 sq 12 (.mv (.s 0)),
 sq 13 (.mv (.s 4)),
 sq 14 (.idxA 2 (.s 12) (.s 13)),
 sq 15 (.load true 2 (.s 14)),
 sq 16 (.call (.c (.fn (.func 43) [] [])) [(.s 15)]),
 sq 17 (.bsl 2 (.agg [(.bool false),(.sl .nil [])]) 1 [(0,(.s 16))]),
 sq 18 (.app 2 32 (.s 11) (.s 17)),
 sa 3 (.mv (.s 18))]))
 (.reg [0,3,4] [sq 9 (.mv (.s 4)),
 sq 10 (.bin .add .num (.s 9) (.c (.int .i64 1))),
 sa 4 (.mv (.s 10))])))
def i25 : IFn:={ nparams:=1,ntmps:=21,results:=[.tmp 2],body :=
 (.seq (.reg [0] [sa 2 (.mv (.c (.sl .nil [])))])
 (.seq (.reg [0] [sa 3 (.mv (.c (.sl .nil [])))])
 (.seq (.seq (.reg [0,3] [sa 4 (.mv (.c (.int .i64 0)))])
 (.block 0
 (.loop [0,3,4] i25b0)))
 (.seq (.reg [3] [sq 19 (.mv (.s 3)),
 sq 20 (.call (.c (.fn (.func 80) [] [])) [(.s 19)]),
 sa 2 (.mv (.s 20))])
 .ret)))) }
theorem tr25 : trF Tryz.prog h25 Tryz.f25 = some i25:=by kernel_rfl
def h26 : List (List Nat):=[[0,1,2],[0,1,2],[0,1,2,7],[0,1,2,7,8],[0,1,2,7,8],[0,1,2,7,8],[0,1,2,7,8,9],[0,1,2,7,8,9],[0,1,2,7,8,9],[0,1,2,7,8],[7]]
def i26b0 : ICode :=
 (.seq (.seq (.reg [0,1,2,7,8] [sq 10 (.mv (.s 8)),
 sq 11 (.mv (.s 0)),
 sq 12 (.len false (.s 11)),
 sq 13 (.bin .lss .num (.s 10) (.s 12)),
 sq 14 (.mv (.s 13)),
 ⟨(some 15),.mv (.s 8),(some (14,true)),[],false⟩,
 ⟨(some 16),.mv (.s 1),(some (14,true)),[],false⟩,
 ⟨(some 17),.bin .lss .num (.s 15) (.s 16),(some (14,true)),[],false⟩,
 sq 18 (.pick (.s 14) (.s 17) (.c (.bool false)))])
 (.cond (.s 18)
 .skip
 (.exit 0)))
 (.seq (.block 1
 (.seq (.reg [0,1,2,7,8] [sq 21 (.mv (.s 0)),
 sq 22 (.mv (.s 8)),
 sq 23 (.idxA 2 (.s 21) (.s 22)),
 sq 24 (.load true 2 (.s 23)),
 sq 25 (.call (.c (.fn (.func 81) [] [])) [(.s 24)]),
 sq 9 (.alloc 2 (.agg [(.bool false),(.sl .nil [])])),
 se (.store 2 (.s 9) (.s 25))])
 (.seq (.seq (.reg [0,1,2,7,8,9] [sq 26 (.fldA 1 false 1 (.s 9)),
 sq 27 (.load false 1 (.s 26)),
 sq 28 (.len false (.s 27)),
 sq 29 (.mv (.s 2)),
 sq 30 (.bin .gtr .num (.s 28) (.s 29))])
 (.cond (.s 30)
 (.reg [0,1,2,7,8,9] [sq 31 (.fldA 1 false 1 (.s 9)),
 sq 32 (.load false 1 (.s 31)),
 sq 33 (.mv (.s 2)),
 sq 34 (.slice 1 (.s 32) none (some (.s 33)) none),
 sq 35 (.fldA 1 false 1 (.s 9)),
 se (.store 1 (.s 35) (.s 34))])
 .skip))
 (.reg [0,1,2,7,8,9] [sq 36 (.mv (.s 7)),
 sq 37 (.load true 2 (.s 9)),
 sq 38 (.bsl 2 (.agg [(.bool false),(.sl .nil [])]) 1 [(0,(.s 37))]),
 sq 39 (.app 2 32 (.s 36) (.s 38)),
 sa 7 (.mv (.s 39))]))))
 (.reg [0,1,2,7,8] [sq 19 (.mv (.s 8)),
 sq 20 (.bin .add .num (.s 19) (.c (.int .i64 1))),
 sa 8 (.mv (.s 20))])))
def i26 : IFn:={ nparams:=3,ntmps:=41,results:=[.tmp 6],body :=
 (.seq (.reg [0,1,2] [sa 6 (.mv (.c (.sl .nil [])))])
 (.seq (.reg [0,1,2] [sa 7 (.mv (.c (.sl .nil [])))])
 (.seq (.seq (.reg [0,1,2,7] [sa 8 (.mv (.c (.int .i64 0)))])
 (.block 0
 (.loop [0,1,2,7,8] i26b0)))
 (.seq (.reg [7] [sq 40 (.mv (.s 7)),
 sa 6 (.mv (.s 40))])
 .ret)))) }
theorem tr26 : trF Tryz.prog h26 Tryz.f26 = some i26:=by kernel_rfl
def h27 : List (List Nat):=[[0,1,2,3],[0,1,2,3],[0,1,2,3,9],[0,1,2,3,9,10],[0,1,2,3,9,10],[0,1,2,3,9,10],[0,1,2,3,9,10],[9]]
def i27b0 : ICode :=
 (.seq (.seq (.reg [0,1,2,3,9,10] [sq 11 (.mv (.s 10)),
 sq 12 (.mv (.s 0)),
 sq 13 (.len false (.s 12)),
 sq 14 (.bin .lss .num (.s 11) (.s 13)),
 sq 15 (.mv (.s 14)),
 ⟨(some 16),.mv (.s 10),(some (15,true)),[],false⟩,
 ⟨(some 17),.mv (.s 1),(some (15,true)),[],false⟩,
 ⟨(some 18),.bin .leq .num (.s 16) (.s 17),(some (15,true)),[],false⟩,
 sq 19 (.pick (.s 15) (.s 18) (.c (.bool false)))])
 (.cond (.s 19)
 .skip
 (.exit 0)))
 (.seq (.block 1
 (.reg [0,1,2,3,9,10] [sq 22 (.mv (.s 9)),
 sq 23 (.mv (.s 0)),
 sq 24 (.mv (.s 10)),
 sq 25 (.idxA 1 (.s 23) (.s 24)),
 sq 26 (.load false 1 (.s 25)),
 sq 27 (.mv (.s 2)),
 sq 28 (.mv (.s 3)),
 sq 29 (.call (.c (.fn (.func 26) [] [])) [(.s 26),(.s 27),(.s 28)]),
 sq 30 (.bsl 1 (.sl .nil []) 1 [(0,(.s 29))]),
 sq 31 (.app 1 24 (.s 22) (.s 30)),
 sa 9 (.mv (.s 31))]))
 (.reg [0,1,2,3,9,10] [sq 20 (.mv (.s 10)),
 sq 21 (.bin .add .num (.s 20) (.c (.int .i64 1))),
 sa 10 (.mv (.s 21))])))
def i27 : IFn:={ nparams:=4,ntmps:=33,results:=[.tmp 8],body :=
 (.seq (.reg [0,1,2,3] [sa 8 (.mv (.c (.sl .nil [])))])
 (.seq (.reg [0,1,2,3] [sa 9 (.mv (.c (.sl .nil [])))])
 (.seq (.seq (.reg [0,1,2,3,9] [sa 10 (.mv (.c (.int .i64 0)))])
 (.block 0
 (.loop [0,1,2,3,9,10] i27b0)))
 (.seq (.reg [9] [sq 32 (.mv (.s 9)),
 sa 8 (.mv (.s 32))])
 .ret)))) }
theorem tr27 : trF Tryz.prog h27 Tryz.f27 = some i27:=by kernel_rfl
def h28 : List (List Nat):=[[0],[0],[0,3],[3,6,7,8],[3,6,7,8],[3,6,7,8],[3,5,6,7,8],[3,6,7,8],[3]]
def i28b0 : ICode :=
 (.seq (.reg [3,6,7,8] [sq 9 (.bin .lss .num (.s 8) (.s 7))])
 (.seq (.cond (.s 9)
 .skip
 (.exit 0))
 (.seq (.block 1
 (.seq (.reg [3,6,7,8] [sq 10 (.idxA 1 (.s 6) (.s 8)),
 sq 11 (.load false 1 (.s 10)),
 sa 5 (.mv (.s 11))])
 (.reg [3,5,6,7,8] [sq 12 (.mv (.s 3)),
 sq 13 (.mv (.s 5)),
 sq 14 (.call (.c (.fn (.func 82) [] [])) [(.s 12),(.s 13)]),
 sa 3 (.mv (.s 14))])))
 (.reg [3,6,7,8] [sq 15 (.bin .add .num (.s 8) (.c (.int .i64 1))),
 sq 8 (.mv (.s 15))]))))
def i28 : IFn:={ nparams:=1,ntmps:=17,results:=[.tmp 2],body :=
 (.seq (.reg [0] [sa 2 (.mv (.c (.sl .nil [])))])
 (.seq (.reg [0] [sa 3 (.mv (.c (.sl .nil [])))])
 (.seq (.seq (.reg [0,3] [sq 6 (.mv (.s 0)),
 sq 7 (.len false (.s 6)),
 sq 8 (.mv (.c (.int .i64 0)))])
 (.block 0
 (.loop [3,6,7,8] i28b0)))
 (.seq (.reg [3] [sq 16 (.mv (.s 3)),
 sa 2 (.mv (.s 16))])
 .ret)))) }
theorem tr28 : trF Tryz.prog h28 Tryz.f28 = some i28:=by kernel_rfl
def h29 : List (List Nat):=[[0],[0],[0],[],[0],[0,3],[0,3],[0,3]]
def i29 : IFn:={ nparams:=1,ntmps:=28,results:=[.tmp 2],body :=
 (.seq (.reg [0] [sa 2 (.mv (.c (.sl .nil [])))])
 (.seq (.reg [0] [sq 4 (.mv (.s 0)),
 sq 5 (.call (.c (.fn (.func 83) [] [])) [(.s 4)]),
 sa 0 (.mv (.s 5))])
 (.seq (.seq (.reg [0] [sq 6 (.mv (.s 0)),
 sq 7 (.len false (.s 6)),
 sq 8 (.bin .eql .num (.s 7) (.c (.int .i64 0)))])
 (.cond (.s 8)
 (.seq (.reg [] [sa 2 (.mv (.c (.sl .nil [])))])
 .ret)
 .skip))
 (.seq (.reg [0] [sq 9 (.mv (.s 0)),
 sq 10 (.call (.c (.fn (.func 28) [] [])) [(.s 9)]),
 sa 3 (.mv (.s 10))])
 (.seq (.seq (.reg [0,3] [sq 11 (.mv (.s 0)),
 sq 12 (.mv (.s 0)),
 sq 13 (.len false (.s 12)),
 sq 14 (.bin .sub .num (.s 13) (.c (.int .i64 1))),
 sq 15 (.idxA 1 (.s 11) (.s 14)),
 sq 16 (.load false 1 (.s 15)),
 sq 17 (.call (.c (.fn (.func 85) [] [])) [(.s 16)]),
 sq 18 (.call (.c (.fn (.func 84) [] [])) [(.s 17)]),
 sq 19 (.bin .lss .num (.s 18) (.c (.int .i64 0)))])
 (.cond (.s 19)
 (.reg [0,3] [sq 20 (.mv (.s 3)),
 sq 21 (.call (.c (.fn (.func 87) [] [])) [(.c (.int .i64 (-1)))]),
 sq 22 (.call (.c (.fn (.func 86) [] [])) [(.s 20),(.s 21)]),
 sa 3 (.mv (.s 22))])
 .skip))
 (.seq (.reg [0,3] [sq 23 (.mv (.s 0)),
 sq 24 (.mv (.s 3)),
 sq 25 (.build [(.sl .nil [])] [(0,1,(.s 24))]),
 sq 26 (.mkfn (.func 88) [(.s 25)] []),
 sq 27 (.call (.c (.fn (.func 39) [] [])) [(.s 23),(.s 26)]),
 sa 2 (.mv (.s 27))])
 .ret)))))) }
theorem tr29 : trF Tryz.prog h29 Tryz.f29 = some i29:=by kernel_rfl
def h30 : List (List Nat):=[[0,1],[0,1],[],[0,1],[0,1,5],[0,1,5],[0,1,5],[0,1,5,6],[],[0,1,5],[]]
def i30d0 : List IStep:=[sq 18 (.mv (.s 0)),
 sq 19 (.mv (.s 5)),
 ⟨(some 20),.idxA 2 (.s 18) (.s 19),none,[0,1],false⟩,
 ⟨(some 21),.load true 2 (.s 20),none,[2],false⟩,
 sq 22 (.mv (.s 1)),
 sq 23 (.mv (.s 5)),
 ⟨(some 24),.idxA 2 (.s 22) (.s 23),none,[4,5],false⟩,
 ⟨(some 25),.load true 2 (.s 24),none,[6],false⟩,
 ⟨(some 26),.call (.c (.fn (.func 52) [] [])) [(.s 21),(.s 25)],none,[3,7],false⟩,
 ⟨(some 6),.mv (.s 26),none,[8,0,1,2,3,4,5,6,7],true⟩]
theorem i30d0t : tame i30d0 = true:=by kernel_rfl
def i30b0 : ICode :=
 (.seq (.seq (.reg [0,1,5] [sq 12 (.mv (.s 5)),
 sq 13 (.mv (.s 0)),
 sq 14 (.len false (.s 13)),
 sq 15 (.bin .lss .num (.s 12) (.s 14))])
 (.cond (.s 15)
 .skip
 (.exit 0)))
 (.seq (.block 1
 (.seq (.draw [0,1,5] i30d0)
 (.seq (.reg [0,1,5,6] [sq 27 (.mv (.s 6)),
 sq 28 (.un .not (.s 27))])
 (.cond (.s 28)
 (.seq (.reg [] [sa 4 (.mv (.c (.bool false)))])
 .ret)
 .skip))))
 (.reg [0,1,5] [sq 16 (.mv (.s 5)),
 sq 17 (.bin .add .num (.s 16) (.c (.int .i64 1))),
 sa 5 (.mv (.s 17))])))
def i30 : IFn:={ nparams:=2,ntmps:=29,results:=[.tmp 4],body :=
 (.seq (.reg [0,1] [sa 4 (.mv (.c (.bool false)))])
 (.seq (.seq (.reg [0,1] [sq 7 (.mv (.s 0)),
 sq 8 (.len false (.s 7)),
 sq 9 (.mv (.s 1)),
 sq 10 (.len false (.s 9)),
 sq 11 (.bin .neq .num (.s 8) (.s 10))])
 (.cond (.s 11)
 (.seq (.reg [] [sa 4 (.mv (.c (.bool false)))])
 .ret)
 .skip))
 (.seq (.seq (.reg [0,1] [sa 5 (.mv (.c (.int .i64 0)))])
 (.block 0
 (.loop [0,1,5] i30b0)))
 (.seq (.reg [] [sa 4 (.mv (.c (.bool true)))])
 .ret)))) }
theorem tr30 : trF Tryz.prog h30 Tryz.f30 = some i30:=by kernel_rfl
def h31 : List (List Nat):=[[0],[0],[0,3],[0,3,4],[0,3,4],[0,3,4],[0,3,4],[3]]
def i31b0 : ICode :=
 (.seq (.seq (.reg [0,3,4] [sq 5 (.mv (.s 4)),
 sq 6 (.mv (.s 0)),
 sq 7 (.len false (.s 6)),
 sq 8 (.bin .lss .num (.s 5) (.s 7))])
 (.cond (.s 8)
 .skip
 (.exit 0)))
 (.seq (.block 1
 (.reg [0,3,4] [sq 11 (.mv (.s 3)),
 sq 12 (.mv (.s 0)),
 sq 13 (.mv (.s 4)),
 sq 14 (.idxA 1 (.s 12) (.s 13)),
 sq 15 (.load false 1 (.s 14)),
 sq 16 (.call (.c (.fn (.func 89) [] [])) [(.s 11),(.s 15)]),
 sa 3 (.mv (.s 16))]))
 (.reg [0,3,4] [sq 9 (.mv (.s 4)),
 sq 10 (.bin .add .num (.s 9) (.c (.int .i64 1))),
 sa 4 (.mv (.s 10))])))
def i31 : IFn:={ nparams:=1,ntmps:=18,results:=[.tmp 2],body :=
 (.seq (.reg [0] [sa 2 (.mv (.c (.sl .nil [])))])
 (.seq (.reg [0] [sa 3 (.mv (.c (.sl .nil [])))])
 (.seq (.seq (.reg [0,3] [sa 4 (.mv (.c (.int .i64 0)))])
 (.block 0
 (.loop [0,3,4] i31b0)))
 (.seq (.reg [3] [sq 17 (.mv (.s 3)),
 sa 2 (.mv (.s 17))])
 .ret)))) }
theorem tr31 : trF Tryz.prog h31 Tryz.f31 = some i31:=by kernel_rfl
def h32 : List (List Nat):=[[0],[0],[0,3],[0,3,4],[0,3,4,5],[0,3,4,5],[0,3,4,5],[0,3,4,5,6],[0,3,4,5],[4],[4],[4]]
def i32b0 : ICode :=
 (.seq (.seq (.reg [0,3,4,5] [sq 10 (.mv (.s 5)),
 sq 11 (.mv (.s 0)),
 sq 12 (.len false (.s 11)),
 sq 13 (.bin .lss .num (.s 10) (.s 12))])
 (.cond (.s 13)
 .skip
 (.exit 0)))
 (.seq (.block 1
 (.seq (.reg [0,3,4,5] [sq 17 (.mv (.s 0)),
 sq 18 (.mv (.s 5)),
 sq 19 (.idxA 1 (.s 17) (.s 18)),
 sq 20 (.load false 1 (.s 19)),
 sq 21 (.mv (.s 3)),
 sq 22 (.call (.c (.fn (.func 90) [] [])) [(.s 20),(.s 21)]),
 sq 16 (.mv (.s 22)),
 sq 23 (.extr (.s 16) 0),
 sq 24 (.extr (.s 16) 1),
 sa 6 (.mv (.s 23)),
 sa 7 (.mv (.s 24))])
 (.reg [0,3,4,5,6] [sq 25 (.mv (.s 4)),
 sq 26 (.mv (.s 6)),
 sq 27 (.bsl 1 (.sl .nil []) 1 [(0,(.s 26))]),
 sq 28 (.app 1 24 (.s 25) (.s 27)),
 sa 4 (.mv (.s 28))])))
 (.reg [0,3,4,5] [sq 14 (.mv (.s 5)),
 sq 15 (.bin .add .num (.s 14) (.c (.int .i64 1))),
 sa 5 (.mv (.s 15))])))
def i32 : IFn:={ nparams:=1,ntmps:=38,results:=[.tmp 2],body :=
 (.seq (.reg [0] [sa 2 (.mv (.c (.sl .nil [])))])
 (.seq (.reg [0] [sq 8 (.mv (.s 0)),
 sq 9 (.call (.c (.fn (.func 31) [] [])) [(.s 8)]),
 sa 3 (.mv (.s 9))])
 (.seq (.reg [0,3] [sa 4 (.mv (.c (.sl .nil [])))])
 (.seq (.seq (.reg [0,3,4] [sa 5 (.mv (.c (.int .i64 0)))])
 (.block 0
 (.loop [0,3,4,5] i32b0)))
 (.seq (.seq (.reg [4] [sq 29 (.mv (.s 4)),
 sq 30 (.call (.c (.fn (.func 62) [] [])) [(.s 29)]),
 sq 31 (.call (.c (.fn (.func 91) [] [])) [(.s 30)]),
 sq 32 (.fld 0 false 1 (.s 31))])
 (.cond (.s 32)
 (.reg [4] [sq 33 (.bsl 1 (.int .i64 0) 1 [(0,(.c (.int .i64 (-1))))]),
 sq 34 (.call (.c (.fn (.func 55) [] [])) [(.s 33)]),
 sq 35 (.mv (.s 4)),
 sq 36 (.call (.c (.fn (.func 24) [] [])) [(.s 34),(.s 35)]),
 sa 4 (.mv (.s 36))])
 .skip))
 (.seq (.reg [4] [sq 37 (.mv (.s 4)),
 sa 2 (.mv (.s 37))])
 .ret)))))) }
theorem tr32 : trF Tryz.prog h32 Tryz.f32 = some i32:=by kernel_rfl
def h33 : List (List Nat):=[[0,1,2],[0,1,2],[],[0,1,2],[],[0,1,2],[0,1,2,8],[0,1,2],[1,2,8],[1,2,8,9],[1,2,8,9],[2,8,9,36,37,38],[2,8,9,36,37,38],[2,8,9,36,37,38],[2,8,9,10,11,36,37,38],[2,8,9,11,36,37,38],[2,8,9,11,36,37,38],[2,8,9,36,37,38],[9]]
def i33b0 : ICode :=
 (.seq (.reg [2,8,9,36,37,38] [sq 39 (.bin .lss .num (.s 38) (.s 37))])
 (.seq (.cond (.s 39)
 .skip
 (.exit 1))
 (.seq (.block 2
 (.seq (.reg [2,8,9,36,37,38] [sq 40 (.mv (.s 38)),
 sq 41 (.idxA 1 (.s 36) (.s 38)),
 sq 42 (.load false 1 (.s 41)),
 sa 10 (.mv (.s 40)),
 sa 11 (.mv (.s 42))])
 (.seq (.seq (.reg [2,8,9,10,11,36,37,38] [sq 43 (.mv (.s 10)),
 sq 44 (.bin .gtr .num (.s 43) (.c (.int .i64 0)))])
 (.cond (.s 44)
 (.reg [2,8,9,11,36,37,38] [sq 45 (.mv (.s 8)),
 sq 46 (.mv (.s 2)),
 sq 47 (.call (.s 45) [(.s 46)]),
 sa 2 (.mv (.s 47))])
 .skip))
 (.reg [2,8,9,11,36,37,38] [sq 48 (.mv (.s 9)),
 sq 49 (.mv (.s 11)),
 sq 50 (.mv (.s 2)),
 sq 51 (.call (.c (.fn (.func 95) [] [])) [(.s 49),(.s 50)]),
 sq 52 (.call (.c (.fn (.func 94) [] [])) [(.s 48),(.s 51)]),
 sa 9 (.mv (.s 52))]))))
 (.reg [2,8,9,36,37,38] [sq 53 (.bin .add .num (.s 38) (.c (.int .i64 1))),
 sq 38 (.mv (.s 53))]))))
def i33 : IFn:={ nparams:=3,ntmps:=55,results:=[.tmp 6,.tmp 7],body :=
 (.seq (.reg [0,1,2] [sa 6 (.mv (.c (.sl .nil []))),
 sa 7 (.mv (.c (.int .i64 0)))])
 (.seq (.block 0
 (.seq (.reg [0,1,2] [sq 13 (.mv (.s 0)),
 sq 14 (.bin .eql .ptr (.s 13) (.c .nilPtr)),
 sa 12 (.mv (.s 14))])
 (.cond (.s 12)
 (.seq (.reg [] [sa 6 (.mv (.c (.sl .nil []))),
 sa 7 (.mv (.c (.int .i64 1)))])
 .ret)
 (.seq (.reg [0,1,2] [sq 16 (.mv (.s 1)),
 sq 17 (.mv (.s 2)),
 sq 18 (.mv (.s 0)),
 sq 19 (.nilc (.s 18)),
 sq 20 (.fldA 1 true 2 (.s 19)),
 sq 21 (.load true 2 (.s 20)),
 sq 22 (.call (.c (.fn (.func 92) [] [])) [(.s 16),(.s 17),(.s 21)]),
 sq 23 (.bin .gtr .num (.s 22) (.c (.int .i64 1048576))),
 sa 15 (.mv (.s 23))])
 (.cond (.s 15)
 (.seq (.reg [] [sa 6 (.mv (.c (.sl .nil []))),
 sa 7 (.mv (.c (.int .i64 4)))])
 .ret)
 .skip)))))
 (.seq (.reg [0,1,2] [sq 24 (.mv (.s 0)),
 sq 25 (.mkfn (.func 47) [(.s 24)] []),
 sa 8 (.mv (.s 25))])
 (.seq (.seq (.reg [0,1,2,8] [sq 26 (.mv (.s 0)),
 sq 27 (.nilc (.s 26)),
 sq 28 (.fldA 0 false 1 (.s 27)),
 sq 29 (.load false 1 (.s 28)),
 sq 30 (.bin .eql .num (.s 29) (.c (.int .i64 2)))])
 (.cond (.s 30)
 (.reg [0,1,2] [sq 31 (.mv (.s 0)),
 sq 32 (.mkfn (.func 49) [(.s 31)] []),
 sa 8 (.mv (.s 32))])
 .skip))
 (.seq (.reg [1,2,8] [sa 9 (.mv (.c (.sl .nil [])))])
 (.seq (.reg [1,2,8,9] [sq 33 (.mv (.s 2)),
 sq 34 (.call (.c (.fn (.func 93) [] [])) [(.s 33)]),
 sa 2 (.mv (.s 34))])
 (.seq (.seq (.reg [1,2,8,9] [sq 35 (.mv (.s 1)),
 sq 36 (.call (.c (.fn (.func 83) [] [])) [(.s 35)]),
 sq 37 (.len false (.s 36)),
 sq 38 (.mv (.c (.int .i64 0)))])
 (.block 1
 (.loop [2,8,9,36,37,38] i33b0)))
 (.seq (.reg [9] [sq 54 (.mv (.s 9)),
 sa 6 (.mv (.s 54)),
 sa 7 (.mv (.c (.int .i64 0)))])
 .ret)))))))) }
theorem tr33 : trF Tryz.prog h33 Tryz.f33 = some i33:=by kernel_rfl
end Go.Proofs.YtklelbidjcealaaGreat
set_option maxRecDepth 100000
namespace Go.Proofs.YtklelbidjcealaaGreat
open Go.Ab
def h34 : List (List Nat):=[[0,1,2],[0,1,5],[1,5,7,8,9],[1,7,8,9,10],[1,7,8,9,10,11]]
def i34 : IFn:={ nparams:=3,ntmps:=43,results:=[.tmp 6],body :=
 (.seq (.reg [0,1,2] [sq 5 (.box 2 (.s 2)),
 sa 6 (.mv (.c (.int .i64 0)))])
 (.seq (.reg [0,1,5] [sq 13 (.mv (.s 0)),
 sq 14 (.call (.c (.fn (.func 73) [] [])) [(.s 13)]),
 sq 12 (.mv (.s 14)),
 sq 15 (.extr (.s 12) 0),
 sq 16 (.extr (.s 12) 1),
 sq 17 (.extr (.s 12) 2),
 sa 7 (.mv (.s 15)),
 sa 8 (.mv (.s 16)),
 sa 9 (.mv (.s 17))])
 (.seq (.reg [1,5,7,8,9] [sq 18 (.load true 2 (.s 5)),
 sq 19 (.call (.c (.fn (.func 74) [] [])) [(.s 18)]),
 sa 10 (.mv (.s 19))])
 (.seq (.reg [1,7,8,9,10] [sq 20 (.mv (.s 1)),
 sq 21 (.call (.c (.fn (.func 96) [] [])) [(.s 20)]),
 sa 11 (.mv (.s 21))])
 (.seq (.reg [1,7,8,9,10,11] [sq 22 (.mv (.s 7)),
 sq 23 (.bin .add .num (.s 22) (.c (.int .i64 1))),
 sq 24 (.mv (.s 8)),
 sq 25 (.mv (.s 11)),
 sq 26 (.bin .add .num (.s 24) (.s 25)),
 sq 27 (.bin .add .num (.s 26) (.c (.int .i64 3))),
 sq 28 (.mv (.s 9)),
 sq 29 (.mv (.s 1)),
 sq 30 (.call (.c (.fn (.func 97) [] [])) [(.s 29)]),
 sq 31 (.mv (.s 7)),
 sq 32 (.bin .add .num (.s 31) (.c (.int .i64 1))),
 sq 33 (.mv (.s 11)),
 sq 34 (.bin .add .num (.s 33) (.c (.int .i64 2))),
 sq 35 (.call (.c (.fn (.func 77) [] [])) [(.s 32),(.s 34)]),
 sq 36 (.mv (.s 10)),
 sq 37 (.bin .add .num (.s 36) (.c (.int .i64 8))),
 sq 38 (.call (.c (.fn (.func 77) [] [])) [(.s 35),(.s 37)]),
 sq 39 (.bsl 1 (.int .i64 0) 3 [(0,(.s 28)),(1,(.s 30)),(2,(.s 38))]),
 sq 40 (.call (.c (.fn (.func 76) [] [])) [(.s 39)]),
 sq 41 (.bsl 1 (.int .i64 0) 3 [(0,(.s 23)),(1,(.s 27)),(2,(.s 40))]),
 sq 42 (.call (.c (.fn (.func 75) [] [])) [(.s 41)]),
 sa 6 (.mv (.s 42))])
 .ret))))) }
theorem tr34 : trF Tryz.prog h34 Tryz.f34 = some i34:=by kernel_rfl
def h35 : List (List Nat):=[[0,1,2],[1,2,3],[1,2,3,7],[1,2,3,7,8],[1,2,3,7,8],[1,2,3,7,8],[1,2,3,7,8],[1,2,3,7,8],[1,2,3,7,8],[1,2,3,7,8],[1,2,3,7,8],[7]]
def i35b0 : ICode :=
 (.seq (.seq (.reg [1,2,3,7,8] [sq 9 (.mv (.s 8)),
 sq 10 (.mv (.s 1)),
 sq 11 (.len false (.s 10)),
 sq 12 (.bin .lss .num (.s 9) (.s 11))])
 (.cond (.s 12)
 .skip
 (.exit 0)))
 (.seq (.block 1
 (.seq (.seq (.reg [1,2,3,7,8] [sq 15 (.mv (.s 8)),
 sq 16 (.bin .gtr .num (.s 15) (.c (.int .i64 0)))])
 (.cond (.s 16)
 (.seq (.reg [1,2,3,7,8] [sq 17 (.fldA 0 false 1 (.s 3)),
 sq 18 (.load false 1 (.s 17)),
 sq 19 (.bin .eql .num (.s 18) (.c (.int .i64 2)))])
 (.cond (.s 19)
 (.reg [1,2,3,7,8] [sq 20 (.load true 3 (.s 3)),
 sq 21 (.mv (.s 2)),
 sq 22 (.call (.c (.fn (.func 50) [] [])) [(.s 20),(.s 21)]),
 sa 2 (.mv (.s 22))])
 (.reg [1,2,3,7,8] [sq 23 (.load true 3 (.s 3)),
 sq 24 (.mv (.s 2)),
 sq 25 (.call (.c (.fn (.func 48) [] [])) [(.s 23),(.s 24)]),
 sa 2 (.mv (.s 25))])))
 .skip))
 (.reg [1,2,3,7,8] [sq 26 (.mv (.s 7)),
 sq 27 (.mv (.s 1)),
 sq 28 (.mv (.s 8)),
 sq 29 (.idxA 1 (.s 27) (.s 28)),
 sq 30 (.load false 1 (.s 29)),
 sq 31 (.mv (.s 2)),
 sq 32 (.call (.c (.fn (.func 42) [] [])) [(.s 30),(.s 31)]),
 sq 33 (.call (.c (.fn (.func 98) [] [])) [(.s 26),(.s 32)]),
 sa 7 (.mv (.s 33))])))
 (.reg [1,2,3,7,8] [sq 13 (.mv (.s 8)),
 sq 14 (.bin .add .num (.s 13) (.c (.int .i64 1))),
 sa 8 (.mv (.s 14))])))
def i35 : IFn:={ nparams:=3,ntmps:=35,results:=[.tmp 6],body :=
 (.seq (.reg [0,1,2] [sq 3 (.box 3 (.s 0)),
 sa 6 (.mv (.c (.sl .nil [])))])
 (.seq (.reg [1,2,3] [sa 7 (.mv (.c (.sl .nil [])))])
 (.seq (.seq (.reg [1,2,3,7] [sa 8 (.mv (.c (.int .i64 0)))])
 (.block 0
 (.loop [1,2,3,7,8] i35b0)))
 (.seq (.reg [7] [sq 34 (.mv (.s 7)),
 sa 6 (.mv (.s 34))])
 .ret)))) }
theorem tr35 : trF Tryz.prog h35 Tryz.f35 = some i35:=by kernel_rfl
def h36 : List (List Nat):=[[0,1],[0,1]]
def i36 : IFn:={ nparams:=2,ntmps:=8,results:=[.tmp 4],body :=
 (.seq (.reg [0,1] [sa 4 (.mv (.c (.sl .nil [])))])
 (.seq (.reg [0,1] [sq 5 (.mv (.s 0)),
 sq 6 (.mv (.s 1)),
 sq 7 (.call (.c (.fn (.func 99) [] [])) [(.s 5),(.s 6),(.c (.fn (.func 94) [] []))]),
 sa 4 (.mv (.s 7))])
 .ret)) }
theorem tr36 : trF Tryz.prog h36 Tryz.f36 = some i36:=by kernel_rfl
def h37 : List (List Nat):=[[0],[0]]
def i37 : IFn:={ nparams:=1,ntmps:=7,results:=[.tmp 2],body :=
 (.seq (.reg [0] [sa 2 (.mv (.c (.int .i64 0)))])
 (.seq (.reg [0] [sq 3 (.mv (.s 0)),
 sq 4 (.call (.c (.fn (.func 83) [] [])) [(.s 3)]),
 sq 5 (.len false (.s 4)),
 sq 6 (.bin .sub .num (.s 5) (.c (.int .i64 1))),
 sa 2 (.mv (.s 6))])
 .ret)) }
theorem tr37 : trF Tryz.prog h37 Tryz.f37 = some i37:=by kernel_rfl
def h38 : List (List Nat):=[[0,1],[0,1],[0,1],[],[0,1],[0,1,16,17],[0,1,16,17],[0,1,16,17],[0,1,5,16,17],[],[0,1,16,17],[]]
def i38d0 : List IStep:=[sq 20 (.mv (.s 0)),
 sq 21 (.mv (.s 5)),
 ⟨(some 22),.idxA 1 (.s 20) (.s 21),none,[0,1],false⟩,
 ⟨(some 23),.load false 1 (.s 22),none,[2],false⟩,
 sq 24 (.mv (.s 1)),
 sq 25 (.mv (.s 5)),
 ⟨(some 26),.idxA 1 (.s 24) (.s 25),none,[4,5],false⟩,
 ⟨(some 27),.load false 1 (.s 26),none,[6],false⟩,
 ⟨(some 28),.call (.c (.fn (.func 100) [] [])) [(.s 23),(.s 27)],none,[3,7],false⟩,
 ⟨(some 29),.un .not (.s 28),none,[8],false⟩]
theorem i38d0t : tame i38d0 = true:=by kernel_rfl
def i38b0 : ICode :=
 (.seq (.reg [0,1,16,17] [sq 18 (.bin .lss .num (.s 17) (.s 16))])
 (.seq (.cond (.s 18)
 .skip
 (.exit 0))
 (.seq (.block 1
 (.seq (.reg [0,1,16,17] [sq 19 (.mv (.s 17)),
 sa 5 (.mv (.s 19))])
 (.seq (.draw [0,1,5,16,17] i38d0)
 (.cond (.s 29)
 (.seq (.reg [] [sa 4 (.mv (.c (.bool false)))])
 .ret)
 .skip))))
 (.reg [0,1,16,17] [sq 30 (.bin .add .num (.s 17) (.c (.int .i64 1))),
 sq 17 (.mv (.s 30))]))))
def i38 : IFn:={ nparams:=2,ntmps:=31,results:=[.tmp 4],body :=
 (.seq (.reg [0,1] [sa 4 (.mv (.c (.bool false)))])
 (.seq (.reg [0,1] [sq 6 (.mv (.s 0)),
 sq 7 (.call (.c (.fn (.func 83) [] [])) [(.s 6)]),
 sq 8 (.mv (.s 1)),
 sq 9 (.call (.c (.fn (.func 83) [] [])) [(.s 8)]),
 sa 0 (.mv (.s 7)),
 sa 1 (.mv (.s 9))])
 (.seq (.seq (.reg [0,1] [sq 10 (.mv (.s 0)),
 sq 11 (.len false (.s 10)),
 sq 12 (.mv (.s 1)),
 sq 13 (.len false (.s 12)),
 sq 14 (.bin .neq .num (.s 11) (.s 13))])
 (.cond (.s 14)
 (.seq (.reg [] [sa 4 (.mv (.c (.bool false)))])
 .ret)
 .skip))
 (.seq (.seq (.reg [0,1] [sq 15 (.mv (.s 0)),
 sq 16 (.len false (.s 15)),
 sq 17 (.mv (.c (.int .i64 0)))])
 (.block 0
 (.loop [0,1,16,17] i38b0)))
 (.seq (.reg [] [sa 4 (.mv (.c (.bool true)))])
 .ret))))) }
theorem tr38 : trF Tryz.prog h38 Tryz.f38 = some i38:=by kernel_rfl
def h39 : List (List Nat):=[[0,1],[0,1],[0,1],[0,1,5],[1,5,13,14,15],[1,5,13,14,15],[1,5,13,14,15],[1,5,6,7,13,14,15],[1,5,6,13,14,15],[1,5,6,13,14,15],[1,5,13,14,15],[5]]
def i39b0 : ICode :=
 (.seq (.reg [1,5,13,14,15] [sq 16 (.bin .lss .num (.s 15) (.s 14))])
 (.seq (.cond (.s 16)
 .skip
 (.exit 0))
 (.seq (.block 1
 (.seq (.reg [1,5,13,14,15] [sq 17 (.mv (.s 15)),
 sq 18 (.idxA 1 (.s 13) (.s 15)),
 sq 19 (.load false 1 (.s 18)),
 sa 6 (.mv (.s 17)),
 sa 7 (.mv (.s 19))])
 (.seq (.reg [1,5,6,7,13,14,15] [sq 20 (.mv (.s 5)),
 sq 21 (.mv (.s 6)),
 sq 22 (.mv (.s 7)),
 sq 23 (.call (.c (.fn (.func 93) [] [])) [(.s 22)]),
 sq 24 (.idxA 1 (.s 20) (.s 21)),
 se (.store 1 (.s 24) (.s 23))])
 (.seq (.reg [1,5,6,13,14,15] [sq 25 (.mv (.s 1)),
 sq 26 (.bin .neq .fn (.s 25) (.c .nilFn))])
 (.cond (.s 26)
 (.reg [1,5,6,13,14,15] [sq 27 (.mv (.s 5)),
 sq 28 (.mv (.s 6)),
 sq 29 (.mv (.s 1)),
 sq 30 (.mv (.s 5)),
 sq 31 (.mv (.s 6)),
 sq 32 (.idxA 1 (.s 30) (.s 31)),
 sq 33 (.load false 1 (.s 32)),
 sq 34 (.call (.s 29) [(.s 33)]),
 sq 35 (.call (.c (.fn (.func 93) [] [])) [(.s 34)]),
 sq 36 (.idxA 1 (.s 27) (.s 28)),
 se (.store 1 (.s 36) (.s 35))])
 .skip)))))
 (.reg [1,5,13,14,15] [sq 37 (.bin .add .num (.s 15) (.c (.int .i64 1))),
 sq 15 (.mv (.s 37))]))))
def i39 : IFn:={ nparams:=2,ntmps:=40,results:=[.tmp 4],body :=
 (.seq (.reg [0,1] [sa 4 (.mv (.c (.sl .nil [])))])
 (.seq (.reg [0,1] [sq 8 (.mv (.s 0)),
 sq 9 (.call (.c (.fn (.func 83) [] [])) [(.s 8)]),
 sa 0 (.mv (.s 9))])
 (.seq (.reg [0,1] [sq 10 (.mv (.s 0)),
 sq 11 (.len false (.s 10)),
 sq 12 (.mksl 1 24 (.sl .nil []) (.s 11) (.s 11)),
 sa 5 (.mv (.s 12))])
 (.seq (.seq (.reg [0,1,5] [sq 13 (.mv (.s 0)),
 sq 14 (.len false (.s 13)),
 sq 15 (.mv (.c (.int .i64 0)))])
 (.block 0
 (.loop [1,5,13,14,15] i39b0)))
 (.seq (.reg [5] [sq 38 (.mv (.s 5)),
 sq 39 (.call (.c (.fn (.func 83) [] [])) [(.s 38)]),
 sa 4 (.mv (.s 39))])
 .ret))))) }
theorem tr39 : trF Tryz.prog h39 Tryz.f39 = some i39:=by kernel_rfl
def h40 : List (List Nat):=[[0,1,2,3,4],[0,1,2,3,4],[0,2,4],[0,4]]
def i40d0 : List IStep:=[sq 24 (.mv (.s 0)),
 ⟨(some 25),.call (.c (.fn (.func 25) [] [])) [(.s 24)],none,[0],false⟩,
 sq 26 (.load false 1 (.s 4)),
 ⟨(some 27),.call (.c (.fn (.func 25) [] [])) [(.s 26)],none,[2,1],false⟩,
 ⟨(some 28),.call (.c (.fn (.func 42) [] [])) [(.s 25),(.s 27)],none,[1,3],false⟩,
 ⟨(some 29),.call (.c (.fn (.func 41) [] [])) [(.s 28)],none,[4],false⟩,
 ⟨(some 6),.mv (.s 29),none,[5,0,1,2,3,4],true⟩]
theorem i40d0t : tame i40d0 = true:=by kernel_rfl
def i40 : IFn:={ nparams:=5,ntmps:=30,results:=[.tmp 6],body :=
 (.seq (.reg [0,1,2,3,4] [sa 6 (.mv (.c (.sl .nil [])))])
 (.seq (.reg [0,1,2,3,4] [sq 7 (.load false 1 (.s 1)),
 sq 8 (.mv (.s 7)),
 ⟨(some 9),.load false 1 (.s 2),(some (8,true)),[],false⟩,
 ⟨(some 10),.load false 1 (.s 3),(some (8,true)),[],false⟩,
 ⟨(some 11),.len false (.s 10),(some (8,true)),[],false⟩,
 ⟨(some 12),.bin .lss .num (.s 9) (.s 11),(some (8,true)),[],false⟩,
 sq 13 (.pick (.s 8) (.s 12) (.c (.bool false))),
 sq 14 (.mv (.s 13)),
 ⟨(some 15),.mv (.s 0),(some (14,true)),[],false⟩,
 ⟨(some 16),.load false 1 (.s 3),(some (14,true)),[],false⟩,
 ⟨(some 17),.load false 1 (.s 2),(some (14,true)),[],false⟩,
 ⟨(some 18),.idxA 1 (.s 16) (.s 17),(some (14,true)),[],false⟩,
 ⟨(some 19),.load false 1 (.s 18),(some (14,true)),[],false⟩,
 ⟨(some 20),.call (.c (.fn (.func 30) [] [])) [(.s 15),(.s 19)],(some (14,true)),[],false⟩,
 sq 21 (.pick (.s 14) (.s 20) (.c (.bool false))),
 se (.store 1 (.s 1) (.s 21))])
 (.seq (.reg [0,2,4] [sq 22 (.load false 1 (.s 2)),
 sq 23 (.bin .add .num (.s 22) (.c (.int .i64 1))),
 se (.store 1 (.s 2) (.s 23))])
 (.seq (.draw [0,4] i40d0)
 .ret)))) }
theorem tr40 : trF Tryz.prog h40 Tryz.f40 = some i40:=by kernel_rfl
def h41 : List (List Nat):=[[0],[0],[0,3],[0,3,4],[0,3,4],[0,3,4],[0,3,4],[3]]
def i41b0 : ICode :=
 (.seq (.seq (.reg [0,3,4] [sq 5 (.mv (.s 4)),
 sq 6 (.mv (.s 0)),
 sq 7 (.len false (.s 6)),
 sq 8 (.bin .lss .num (.s 5) (.s 7))])
 (.cond (.s 8)
 .skip
 (.exit 0)))
 (.seq (.block 1
 (.reg [0,3,4] [sq 11 (.mv (.s 3)),
 sq 12 (.mv (.s 0)),
 sq 13 (.mv (.s 4)),
 sq 14 (.idxA 2 (.s 12) (.s 13)),
 sq 15 (.load true 2 (.s 14)),
 sq 16 (.call (.c (.fn (.func 45) [] [])) [(.s 15)]),
 sq 17 (.bsl 2 (.agg [(.bool false),(.sl .nil [])]) 1 [(0,(.s 16))]),
 sq 18 (.app 2 32 (.s 11) (.s 17)),
 sa 3 (.mv (.s 18))]))
 (.reg [0,3,4] [sq 9 (.mv (.s 4)),
 sq 10 (.bin .add .num (.s 9) (.c (.int .i64 1))),
 sa 4 (.mv (.s 10))])))
def i41 : IFn:={ nparams:=1,ntmps:=20,results:=[.tmp 2],body :=
 (.seq (.reg [0] [sa 2 (.mv (.c (.sl .nil [])))])
 (.seq (.reg [0] [sa 3 (.mv (.c (.sl .nil [])))])
 (.seq (.seq (.reg [0,3] [sa 4 (.mv (.c (.int .i64 0)))])
 (.block 0
 (.loop [0,3,4] i41b0)))
 (.seq (.reg [3] [sq 19 (.mv (.s 3)),
 sa 2 (.mv (.s 19))])
 .ret)))) }
theorem tr41 : trF Tryz.prog h41 Tryz.f41 = some i41:=by kernel_rfl
def h42 : List (List Nat):=[[0,1],[0,1],[],[0,1],[0,1,5],[0,1,5,6],[0,1,5,6],[0,1,5,6],[0,1,5,6,7],[0,1,5,6,7],[0,1,5,6,7],[0,1,5,6,7],[0,1,5,6],[5]]
def i42d0 : List IStep:=[sq 35 (.mv (.s 5)),
 sq 36 (.mv (.s 6)),
 sq 37 (.mv (.s 7)),
 ⟨(some 38),.bin .add .num (.s 36) (.s 37),none,[1,2],false⟩,
 sq 39 (.mv (.s 5)),
 sq 40 (.mv (.s 6)),
 sq 41 (.mv (.s 7)),
 ⟨(some 42),.bin .add .num (.s 40) (.s 41),none,[5,6],false⟩,
 ⟨(some 43),.idxA 2 (.s 39) (.s 42),none,[4,7],false⟩,
 ⟨(some 44),.load true 2 (.s 43),none,[8],false⟩,
 sq 45 (.mv (.s 0)),
 sq 46 (.mv (.s 6)),
 ⟨(some 47),.idxA 2 (.s 45) (.s 46),none,[10,11],false⟩,
 ⟨(some 48),.load true 2 (.s 47),none,[12],false⟩,
 sq 49 (.mv (.s 1)),
 sq 50 (.mv (.s 7)),
 ⟨(some 51),.idxA 2 (.s 49) (.s 50),none,[14,15],false⟩,
 ⟨(some 52),.load true 2 (.s 51),none,[16],false⟩,
 ⟨(some 53),.call (.c (.fn (.func 102) [] [])) [(.s 48),(.s 52)],none,[13,17],false⟩,
 ⟨(some 54),.call (.c (.fn (.func 101) [] [])) [(.s 44),(.s 53)],none,[9,18],false⟩,
 ⟨(some 55),.idxA 2 (.s 35) (.s 38),none,[0,3,1,2,4,5,6,7,8,9,10,11,12,13,14,15,16,17,18,19],false⟩,
 ⟨none,.store 2 (.s 55) (.s 54),none,[20,19,0,1,2,3,4,5,6,7,8,9,10,11,12,13,14,15,16,17,18],false⟩]
theorem i42d0t : tame i42d0 = true:=by kernel_rfl
def i42b0 : ICode :=
 (.seq (.seq (.reg [0,1,5,6,7] [sq 29 (.mv (.s 7)),
 sq 30 (.mv (.s 1)),
 sq 31 (.len false (.s 30)),
 sq 32 (.bin .lss .num (.s 29) (.s 31))])
 (.cond (.s 32)
 .skip
 (.exit 2)))
 (.seq (.block 3
 (.draw [0,1,5,6,7] i42d0))
 (.reg [0,1,5,6,7] [sq 33 (.mv (.s 7)),
 sq 34 (.bin .add .num (.s 33) (.c (.int .i64 1))),
 sa 7 (.mv (.s 34))])))
def i42b1 : ICode :=
 (.seq (.seq (.reg [0,1,5,6] [sq 23 (.mv (.s 6)),
 sq 24 (.mv (.s 0)),
 sq 25 (.len false (.s 24)),
 sq 26 (.bin .lss .num (.s 23) (.s 25))])
 (.cond (.s 26)
 .skip
 (.exit 0)))
 (.seq (.block 1
 (.seq (.reg [0,1,5,6] [sa 7 (.mv (.c (.int .i64 0)))])
 (.block 2
 (.loop [0,1,5,6,7] i42b0))))
 (.reg [0,1,5,6] [sq 27 (.mv (.s 6)),
 sq 28 (.bin .add .num (.s 27) (.c (.int .i64 1))),
 sa 6 (.mv (.s 28))])))
def i42 : IFn:={ nparams:=2,ntmps:=58,results:=[.tmp 4],body :=
 (.seq (.reg [0,1] [sa 4 (.mv (.c (.sl .nil [])))])
 (.seq (.seq (.reg [0,1] [sq 8 (.mv (.s 0)),
 sq 9 (.len false (.s 8)),
 sq 10 (.bin .eql .num (.s 9) (.c (.int .i64 0))),
 sq 11 (.mv (.s 10)),
 ⟨(some 12),.mv (.s 1),(some (11,false)),[],false⟩,
 ⟨(some 13),.len false (.s 12),(some (11,false)),[],false⟩,
 ⟨(some 14),.bin .eql .num (.s 13) (.c (.int .i64 0)),(some (11,false)),[],false⟩,
 sq 15 (.pick (.s 11) (.c (.bool true)) (.s 14))])
 (.cond (.s 15)
 (.seq (.reg [] [sa 4 (.mv (.c (.sl .nil [])))])
 .ret)
 .skip))
 (.seq (.reg [0,1] [sq 16 (.mv (.s 0)),
 sq 17 (.len false (.s 16)),
 sq 18 (.mv (.s 1)),
 sq 19 (.len false (.s 18)),
 sq 20 (.bin .add .num (.s 17) (.s 19)),
 sq 21 (.bin .sub .num (.s 20) (.c (.int .i64 1))),
 sq 22 (.mksl 2 32 (.agg [(.bool false),(.sl .nil [])]) (.s 21) (.s 21)),
 sa 5 (.mv (.s 22))])
 (.seq (.seq (.reg [0,1,5] [sa 6 (.mv (.c (.int .i64 0)))])
 (.block 0
 (.loop [0,1,5,6] i42b1)))
 (.seq (.reg [5] [sq 56 (.mv (.s 5)),
 sq 57 (.call (.c (.fn (.func 80) [] [])) [(.s 56)]),
 sa 4 (.mv (.s 57))])
 .ret))))) }
theorem tr42 : trF Tryz.prog h42 Tryz.f42 = some i42:=by kernel_rfl
def h43 : List (List Nat):=[[0],[1,2],[1,2,3],[1,2,3,4],[1,2,3,4],[1,2,3,4],[1,2,3,4],[1,2,3]]
def i43d0 : List IStep:=[sq 12 (.mv (.s 3)),
 sq 13 (.fldA 1 false 1 (.s 1)),
 ⟨(some 14),.load false 1 (.s 13),none,[1],false⟩,
 sq 15 (.mv (.s 4)),
 ⟨(some 16),.idxA 1 (.s 14) (.s 15),none,[2,3],false⟩,
 ⟨(some 17),.load false 1 (.s 16),none,[4],false⟩,
 ⟨(some 18),.bin .rem .num (.s 17) (.c (.int .u32 65536)),none,[5],false⟩,
 ⟨(some 19),.conv .i64 (.s 18),none,[6],false⟩,
 sq 20 (.fldA 1 false 1 (.s 1)),
 ⟨(some 21),.load false 1 (.s 20),none,[8],false⟩,
 sq 22 (.mv (.s 4)),
 ⟨(some 23),.idxA 1 (.s 21) (.s 22),none,[9,10],false⟩,
 ⟨(some 24),.load false 1 (.s 23),none,[11],false⟩,
 ⟨(some 25),.bin .quo .num (.s 24) (.c (.int .u32 65536)),none,[12],false⟩,
 ⟨(some 26),.conv .i64 (.s 25),none,[13],false⟩,
 ⟨(some 27),.bsl 1 (.int .i64 0) 2 [(0,(.s 19)),(1,(.s 26))],none,[7,14],false⟩,
 ⟨(some 28),.app 1 8 (.s 12) (.s 27),none,[0,15],false⟩,
 ⟨(some 3),.mv (.s 28),none,[16,0,1,2,3,4,5,6,7,8,9,10,11,12,13,14,15],true⟩]
theorem i43d0t : tame i43d0 = true:=by kernel_rfl
def i43b0 : ICode :=
 (.seq (.seq (.reg [1,2,3,4] [sq 5 (.mv (.s 4)),
 sq 6 (.fldA 1 false 1 (.s 1)),
 sq 7 (.load false 1 (.s 6)),
 sq 8 (.len false (.s 7)),
 sq 9 (.bin .lss .num (.s 5) (.s 8))])
 (.cond (.s 9)
 .skip
 (.exit 0)))
 (.seq (.block 1
 (.draw [1,2,3,4] i43d0))
 (.reg [1,2,3,4] [sq 10 (.mv (.s 4)),
 sq 11 (.bin .add .num (.s 10) (.c (.int .i64 1))),
 sa 4 (.mv (.s 11))])))
def i43 : IFn:={ nparams:=1,ntmps:=33,results:=[.cell 2 true 2],body :=
 (.seq (.reg [0] [sq 1 (.box 2 (.s 0)),
 sq 2 (.alloc 2 (.agg [(.bool false),(.sl .nil [])]))])
 (.seq (.reg [1,2] [sa 3 (.mv (.c (.sl .nil [])))])
 (.seq (.seq (.reg [1,2,3] [sa 4 (.mv (.c (.int .i64 0)))])
 (.block 0
 (.loop [1,2,3,4] i43b0)))
 (.seq (.reg [1,2,3] [sq 29 (.fldA 0 false 1 (.s 1)),
 sq 30 (.load false 1 (.s 29)),
 sq 31 (.mv (.s 3)),
 sq 32 (.call (.c (.fn (.func 79) [] [])) [(.s 30),(.s 31)]),
 se (.store 2 (.s 2) (.s 32))])
 .ret)))) }
theorem tr43 : trF Tryz.prog h43 Tryz.f43 = some i43:=by kernel_rfl
def h44 : List (List Nat):=[[0,1],[0,3],[0,3,6],[0,3,6],[0],[0,3,6],[0,3],[],[0,3],[]]
def i44 : IFn:={ nparams:=2,ntmps:=24,results:=[.tmp 4,.tmp 5],body :=
 (.seq (.reg [0,1] [sq 3 (.box 2 (.s 1)),
 sa 4 (.mv (.c .nilPtr)),
 sa 5 (.mv (.c (.int .i64 0)))])
 (.seq (.seq (.reg [0,3] [sq 6 (.mv (.s 0))])
 (.block 0
 (.seq (.seq (.reg [0,3,6] [sq 8 (.bin .eql .num (.s 6) (.c (.int .i64 1))),
 sa 7 (.mv (.s 8))])
 (.cond (.s 7)
 .skip
 (.reg [0,3,6] [sq 9 (.bin .eql .num (.s 6) (.c (.int .i64 2))),
 sa 7 (.mv (.s 9))])))
 (.cond (.s 7)
 (.seq (.reg [0] [sq 10 (.mv (.s 0)),
 sq 11 (.build [(.int .i64 0),(.bool false),(.sl .nil [])] [(0,1,(.s 10))]),
 sq 12 (.box 3 (.s 11)),
 sa 4 (.mv (.s 12)),
 sa 5 (.mv (.c (.int .i64 0)))])
 .ret)
 (.seq (.reg [0,3,6] [sq 14 (.bin .eql .num (.s 6) (.c (.int .i64 3))),
 sa 13 (.mv (.s 14))])
 (.cond (.s 13)
 (.seq (.seq (.reg [0,3] [sq 15 (.load true 2 (.s 3)),
 sq 16 (.call (.c (.fn (.func 84) [] [])) [(.s 15)]),
 sq 17 (.bin .eql .num (.s 16) (.c (.int .i64 0)))])
 (.cond (.s 17)
 (.seq (.reg [] [sa 4 (.mv (.c .nilPtr)),
 sa 5 (.mv (.c (.int .i64 2)))])
 .ret)
 .skip))
 (.seq (.reg [0,3] [sq 18 (.mv (.s 0)),
 sq 19 (.load true 2 (.s 3)),
 sq 20 (.build [(.bool false),(.sl .nil [])] []),
 sq 21 (.call (.c (.fn (.func 103) [] [])) [(.s 19),(.s 20)]),
 sq 22 (.build [(.int .i64 0),(.bool false),(.sl .nil [])] [(0,1,(.s 18)),(1,2,(.s 21))]),
 sq 23 (.box 3 (.s 22)),
 sa 4 (.mv (.s 23)),
 sa 5 (.mv (.c (.int .i64 0)))])
 .ret))
 .skip))))))
 (.seq (.reg [] [sa 4 (.mv (.c .nilPtr)),
 sa 5 (.mv (.c (.int .i64 10)))])
 .ret))) }
theorem tr44 : trF Tryz.prog h44 Tryz.f44 = some i44:=by kernel_rfl
def h45 : List (List Nat):=[[0],[1,2],[1,2,3],[1,2,3,4],[1,2,3,4],[1,2,3,4],[1,2,3,4,5],[1,2,3,4,5],[1,2,3,4,5],[1,2,3,4],[1,2,3]]
def i45b0 : ICode :=
 (.seq (.seq (.reg [1,2,3,4] [sq 6 (.mv (.s 4)),
 sq 7 (.fldA 1 false 1 (.s 1)),
 sq 8 (.load false 1 (.s 7)),
 sq 9 (.len false (.s 8)),
 sq 10 (.bin .lss .num (.s 6) (.s 9))])
 (.cond (.s 10)
 .skip
 (.exit 0)))
 (.seq (.block 1
 (.seq (.reg [1,2,3,4] [sq 13 (.fldA 1 false 1 (.s 1)),
 sq 14 (.load false 1 (.s 13)),
 sq 15 (.mv (.s 4)),
 sq 16 (.idxA 1 (.s 14) (.s 15)),
 sq 17 (.load false 1 (.s 16)),
 sq 18 (.conv .u32 (.s 17)),
 sa 5 (.mv (.s 18))])
 (.seq (.seq (.reg [1,2,3,4,5] [sq 19 (.mv (.s 4)),
 sq 20 (.bin .add .num (.s 19) (.c (.int .i64 1))),
 sq 21 (.fldA 1 false 1 (.s 1)),
 sq 22 (.load false 1 (.s 21)),
 sq 23 (.len false (.s 22)),
 sq 24 (.bin .lss .num (.s 20) (.s 23))])
 (.cond (.s 24)
 (.reg [1,2,3,4,5] [sq 25 (.mv (.s 5)),
 sq 26 (.fldA 1 false 1 (.s 1)),
 sq 27 (.load false 1 (.s 26)),
 sq 28 (.mv (.s 4)),
 sq 29 (.bin .add .num (.s 28) (.c (.int .i64 1))),
 sq 30 (.idxA 1 (.s 27) (.s 29)),
 sq 31 (.load false 1 (.s 30)),
 sq 32 (.conv .u32 (.s 31)),
 sq 33 (.bin .mul .num (.s 32) (.c (.int .u32 65536))),
 sq 34 (.bin .add .num (.s 25) (.s 33)),
 sa 5 (.mv (.s 34))])
 .skip))
 (.reg [1,2,3,4,5] [sq 35 (.mv (.s 3)),
 sq 36 (.mv (.s 5)),
 sq 37 (.bsl 1 (.int .u32 0) 1 [(0,(.s 36))]),
 sq 38 (.app 1 4 (.s 35) (.s 37)),
 sa 3 (.mv (.s 38))]))))
 (.reg [1,2,3,4] [sq 11 (.mv (.s 4)),
 sq 12 (.bin .add .num (.s 11) (.c (.int .i64 2))),
 sa 4 (.mv (.s 12))])))
def i45 : IFn:={ nparams:=1,ntmps:=43,results:=[.cell 2 true 2],body :=
 (.seq (.reg [0] [sq 1 (.box 2 (.s 0)),
 sq 2 (.alloc 2 (.agg [(.bool false),(.sl .nil [])]))])
 (.seq (.reg [1,2] [sa 3 (.mv (.c (.sl .nil [])))])
 (.seq (.seq (.reg [1,2,3] [sa 4 (.mv (.c (.int .i64 0)))])
 (.block 0
 (.loop [1,2,3,4] i45b0)))
 (.seq (.reg [1,2,3] [sq 39 (.fldA 0 false 1 (.s 1)),
 sq 40 (.load false 1 (.s 39)),
 sq 41 (.mv (.s 3)),
 sq 42 (.build [(.bool false),(.sl .nil [])] [(0,1,(.s 40)),(1,1,(.s 41))]),
 se (.store 2 (.s 2) (.s 42))])
 .ret)))) }
theorem tr45 : trF Tryz.prog h45 Tryz.f45 = some i45:=by kernel_rfl
def h46 : List (List Nat):=[[0],[1],[],[1],[],[]]
def i46 : IFn:={ nparams:=1,ntmps:=9,results:=[.tmp 2],body :=
 (.seq (.reg [0] [sq 1 (.box 2 (.s 0)),
 sa 2 (.mv (.c (.int .i64 0)))])
 (.seq (.seq (.reg [1] [sq 3 (.fldA 1 false 1 (.s 1)),
 sq 4 (.load false 1 (.s 3)),
 sq 5 (.len false (.s 4)),
 sq 6 (.bin .eql .num (.s 5) (.c (.int .i64 0)))])
 (.cond (.s 6)
 (.seq (.reg [] [sa 2 (.mv (.c (.int .i64 0)))])
 .ret)
 .skip))
 (.seq (.seq (.reg [1] [sq 7 (.fldA 0 false 1 (.s 1)),
 sq 8 (.load false 1 (.s 7))])
 (.cond (.s 8)
 (.seq (.reg [] [sa 2 (.mv (.c (.int .i64 (-1))))])
 .ret)
 .skip))
 (.seq (.reg [] [sa 2 (.mv (.c (.int .i64 1)))])
 .ret)))) }
theorem tr46 : trF Tryz.prog h46 Tryz.f46 = some i46:=by kernel_rfl
def h47 : List (List Nat):=[[0,1],[0,1],[0,1,6],[1],[0,1,6],[1],[0,1,6],[0,1],[]]
def i47 : IFn:={ nparams:=2,ntmps:=21,results:=[.tmp 4],body :=
 (.seq (.reg [0,1] [sa 4 (.mv (.c (.sl .nil [])))])
 (.seq (.seq (.reg [0,1] [sq 5 (.mv (.s 0)),
 sq 6 (.call (.c (.fn (.func 51) [] [])) [(.s 5)])])
 (.block 0
 (.seq (.reg [0,1,6] [sq 8 (.bin .eql .num (.s 6) (.c (.int .i64 1))),
 sa 7 (.mv (.s 8))])
 (.cond (.s 7)
 (.seq (.reg [1] [sq 9 (.mv (.s 1)),
 sq 10 (.call (.c (.fn (.func 87) [] [])) [(.c (.int .i64 1))]),
 sq 11 (.call (.c (.fn (.func 104) [] [])) [(.s 9),(.s 10)]),
 sa 4 (.mv (.s 11))])
 .ret)
 (.seq (.reg [0,1,6] [sq 13 (.bin .eql .num (.s 6) (.c (.int .i64 2))),
 sa 12 (.mv (.s 13))])
 (.cond (.s 12)
 (.seq (.reg [1] [sq 14 (.mv (.s 1)),
 sq 15 (.call (.c (.fn (.func 93) [] [])) [(.s 14)]),
 sa 4 (.mv (.s 15))])
 .ret)
 (.seq (.reg [0,1,6] [sq 17 (.bin .eql .num (.s 6) (.c (.int .i64 3))),
 sa 16 (.mv (.s 17))])
 (.cond (.s 16)
 (.seq (.reg [0,1] [sq 18 (.mv (.s 0)),
 sq 19 (.mv (.s 1)),
 sq 20 (.call (.c (.fn (.func 105) [] [])) [(.s 18),(.s 19)]),
 sa 4 (.mv (.s 20))])
 .ret)
 .skip))))))))
 (.seq (.reg [] [sa 4 (.mv (.c (.sl .nil [])))])
 .ret))) }
theorem tr47 : trF Tryz.prog h47 Tryz.f47 = some i47:=by kernel_rfl
def h48 : List (List Nat):=[[0,1],[1,2],[1,2,6],[1],[1,2,6],[1,2],[1]]
def i48d0 : List IStep:=[sq 14 (.mv (.s 1)),
 sq 15 (.call (.c (.fn (.func 22) [] [])) [(.c (.int .i64 0))]),
 sq 16 (.fldA 1 true 2 (.s 2)),
 ⟨(some 17),.load true 2 (.s 16),none,[2],false⟩,
 ⟨(some 18),.bsl 2 (.agg [(.bool false),(.sl .nil [])]) 2 [(0,(.s 15)),(1,(.s 17))],none,[1,3],false⟩,
 ⟨(some 19),.call (.c (.fn (.func 80) [] [])) [(.s 18)],none,[4,1],false⟩,
 ⟨(some 20),.call (.c (.fn (.func 107) [] [])) [(.s 14),(.s 19)],none,[0,5],false⟩,
 ⟨(some 4),.mv (.s 20),none,[6,0,1,2,3,4,5],true⟩]
theorem i48d0t : tame i48d0 = true:=by kernel_rfl
def i48 : IFn:={ nparams:=2,ntmps:=22,results:=[.tmp 4],body :=
 (.seq (.reg [0,1] [sq 2 (.box 3 (.s 0)),
 sa 4 (.mv (.c (.sl .nil [])))])
 (.seq (.seq (.reg [1,2] [sq 5 (.fldA 0 false 1 (.s 2)),
 sq 6 (.load false 1 (.s 5))])
 (.block 0
 (.seq (.reg [1,2,6] [sq 8 (.bin .eql .num (.s 6) (.c (.int .i64 1))),
 sa 7 (.mv (.s 8))])
 (.cond (.s 7)
 (.seq (.reg [1] [sq 9 (.mv (.s 1)),
 sq 10 (.call (.c (.fn (.func 22) [] [])) [(.c (.int .i64 1))]),
 sq 11 (.call (.c (.fn (.func 106) [] [])) [(.s 9),(.s 10)]),
 sa 4 (.mv (.s 11))])
 .ret)
 (.seq (.reg [1,2,6] [sq 13 (.bin .eql .num (.s 6) (.c (.int .i64 3))),
 sa 12 (.mv (.s 13))])
 (.cond (.s 12)
 (.seq (.draw [1,2] i48d0)
 .ret)
 .skip))))))
 (.seq (.reg [1] [sq 21 (.mv (.s 1)),
 sa 4 (.mv (.s 21))])
 .ret))) }
theorem tr48 : trF Tryz.prog h48 Tryz.f48 = some i48:=by kernel_rfl
def h49 : List (List Nat):=[[0,1],[0,1],[1],[]]
def i49 : IFn:={ nparams:=2,ntmps:=10,results:=[.tmp 4],body :=
 (.seq (.reg [0,1] [sa 4 (.mv (.c (.sl .nil [])))])
 (.seq (.seq (.reg [0,1] [sq 5 (.mv (.s 0)),
 sq 6 (.call (.c (.fn (.func 51) [] [])) [(.s 5)]),
 sq 7 (.bin .eql .num (.s 6) (.c (.int .i64 2)))])
 (.cond (.s 7)
 (.seq (.reg [1] [sq 8 (.mv (.s 1)),
 sq 9 (.call (.c (.fn (.func 108) [] [])) [(.s 8)]),
 sa 4 (.mv (.s 9))])
 .ret)
 .skip))
 (.seq (.reg [] [sa 4 (.mv (.c (.sl .nil [])))])
 .ret))) }
theorem tr49 : trF Tryz.prog h49 Tryz.f49 = some i49:=by kernel_rfl
def h50 : List (List Nat):=[[0,1],[1,2],[1],[]]
def i50 : IFn:={ nparams:=2,ntmps:=10,results:=[.tmp 4],body :=
 (.seq (.reg [0,1] [sq 2 (.box 3 (.s 0)),
 sa 4 (.mv (.c (.sl .nil [])))])
 (.seq (.seq (.reg [1,2] [sq 5 (.fldA 0 false 1 (.s 2)),
 sq 6 (.load false 1 (.s 5)),
 sq 7 (.bin .eql .num (.s 6) (.c (.int .i64 2)))])
 (.cond (.s 7)
 (.seq (.reg [1] [sq 8 (.mv (.s 1)),
 sq 9 (.call (.c (.fn (.func 109) [] [])) [(.s 8)]),
 sa 4 (.mv (.s 9))])
 .ret)
 .skip))
 (.seq (.reg [] [sa 4 (.mv (.c (.sl .nil [])))])
 .ret))) }
theorem tr50 : trF Tryz.prog h50 Tryz.f50 = some i50:=by kernel_rfl
def h51 : List (List Nat):=[[0],[0],[],[0]]
def i51 : IFn:={ nparams:=1,ntmps:=9,results:=[.tmp 2],body :=
 (.seq (.reg [0] [sa 2 (.mv (.c (.int .i64 0)))])
 (.seq (.seq (.reg [0] [sq 3 (.mv (.s 0)),
 sq 4 (.bin .eql .ptr (.s 3) (.c .nilPtr))])
 (.cond (.s 4)
 (.seq (.reg [] [sa 2 (.mv (.c (.int .i64 0)))])
 .ret)
 .skip))
 (.seq (.reg [0] [sq 5 (.mv (.s 0)),
 sq 6 (.nilc (.s 5)),
 sq 7 (.fldA 0 false 1 (.s 6)),
 sq 8 (.load false 1 (.s 7)),
 sa 2 (.mv (.s 8))])
 .ret))) }
theorem tr51 : trF Tryz.prog h51 Tryz.f51 = some i51:=by kernel_rfl
def h52 : List (List Nat):=[[0,1],[2,3]]
def i52d0 : List IStep:=[sq 5 (.load true 2 (.s 2)),
 sq 6 (.load true 2 (.s 3)),
 ⟨(some 7),.call (.c (.fn (.func 45) [] [])) [(.s 6)],none,[1],false⟩,
 ⟨(some 8),.call (.c (.fn (.func 110) [] [])) [(.s 5),(.s 7)],none,[0,2],false⟩,
 ⟨(some 4),.mv (.s 8),none,[3,0,1,2],true⟩]
theorem i52d0t : tame i52d0 = true:=by kernel_rfl
def i52 : IFn:={ nparams:=2,ntmps:=9,results:=[.tmp 4],body :=
 (.seq (.reg [0,1] [sq 2 (.box 2 (.s 0)),
 sq 3 (.box 2 (.s 1)),
 sa 4 (.mv (.c (.bool false)))])
 (.seq (.draw [2,3] i52d0)
 .ret)) }
theorem tr52 : trF Tryz.prog h52 Tryz.f52 = some i52:=by kernel_rfl
def h53 : List (List Nat):=[[0],[0,2],[2],[0,2]]
def i53 : IFn:={ nparams:=1,ntmps:=12,results:=[.cell 2 true 2],body :=
 (.seq (.reg [0] [sq 2 (.alloc 2 (.agg [(.bool false),(.sl .nil [])]))])
 (.seq (.seq (.reg [0,2] [sq 3 (.mv (.s 0)),
 sq 4 (.bin .eql .ptr (.s 3) (.c .nilPtr))])
 (.cond (.s 4)
 (.seq (.reg [2] [sq 5 (.build [(.bool false),(.sl .nil [])] []),
 se (.store 2 (.s 2) (.s 5))])
 .ret)
 .skip))
 (.seq (.reg [0,2] [sq 6 (.mv (.s 0)),
 sq 7 (.nilc (.s 6)),
 sq 8 (.fldA 1 true 2 (.s 7)),
 sq 9 (.load true 2 (.s 8)),
 sq 10 (.build [(.bool false),(.sl .nil [])] []),
 sq 11 (.call (.c (.fn (.func 103) [] [])) [(.s 9),(.s 10)]),
 se (.store 2 (.s 2) (.s 11))])
 .ret))) }
theorem tr53 : trF Tryz.prog h53 Tryz.f53 = some i53:=by kernel_rfl
def h54 : List (List Nat):=[[0,1,2],[0,1,2],[],[0,1,2],[],[0,1,2],[0,1,2,8],[0,1,8,28,29],[0,1,8,28,29],[0,1,8,28,29],[0,1,8,28,29],[0,1,8,9,28,29],[9],[0,1,8,28,29],[8]]
def i54b0 : ICode :=
 (.seq (.reg [0,1,8,28,29] [sq 30 (.bin .lss .num (.s 29) (.s 28))])
 (.seq (.cond (.s 30)
 .skip
 (.exit 0))
 (.seq (.block 1
 (.seq (.reg [0,1,8,28,29] [sa 9 (.mv (.c (.int .i64 0)))])
 (.seq (.reg [0,1,8,28,29] [sq 32 (.mv (.s 0)),
 sq 33 (.mv (.s 8)),
 sq 34 (.mv (.s 1)),
 sq 35 (.call (.c (.fn (.func 18) [] [])) [(.s 32),(.s 33),(.s 34)]),
 sq 31 (.mv (.s 35)),
 sq 36 (.extr (.s 31) 0),
 sq 37 (.extr (.s 31) 1),
 sa 8 (.mv (.s 36)),
 sa 9 (.mv (.s 37))])
 (.seq (.reg [0,1,8,9,28,29] [sq 38 (.mv (.s 9)),
 sq 39 (.bin .neq .num (.s 38) (.c (.int .i64 0)))])
 (.cond (.s 39)
 (.seq (.reg [9] [sq 40 (.mv (.s 9)),
 sa 6 (.mv (.c (.sl .nil []))),
 sa 7 (.mv (.s 40))])
 .ret)
 .skip)))))
 (.reg [0,1,8,28,29] [sq 41 (.bin .add .num (.s 29) (.c (.int .i64 1))),
 sq 29 (.mv (.s 41))]))))
def i54 : IFn:={ nparams:=3,ntmps:=43,results:=[.tmp 6,.tmp 7],body :=
 (.seq (.reg [0,1,2] [sa 6 (.mv (.c (.sl .nil []))),
 sa 7 (.mv (.c (.int .i64 0)))])
 (.seq (.seq (.reg [0,1,2] [sq 10 (.mv (.s 0)),
 sq 11 (.bin .eql .ptr (.s 10) (.c .nilPtr)),
 sq 12 (.mv (.s 11)),
 ⟨(some 13),.mv (.s 2),(some (12,false)),[],false⟩,
 ⟨(some 14),.bin .lss .num (.s 13) (.c (.int .i64 0)),(some (12,false)),[],false⟩,
 sq 15 (.pick (.s 12) (.c (.bool true)) (.s 14)),
 sq 16 (.mv (.s 15)),
 ⟨(some 17),.mv (.s 2),(some (16,false)),[],false⟩,
 ⟨(some 18),.bin .gtr .num (.s 17) (.c (.int .i64 64)),(some (16,false)),[],false⟩,
 sq 19 (.pick (.s 16) (.c (.bool true)) (.s 18))])
 (.cond (.s 19)
 (.seq (.reg [] [sa 6 (.mv (.c (.sl .nil []))),
 sa 7 (.mv (.c (.int .i64 1)))])
 .ret)
 .skip))
 (.seq (.seq (.reg [0,1,2] [sq 20 (.mv (.s 2)),
 sq 21 (.bin .eql .num (.s 20) (.c (.int .i64 0)))])
 (.cond (.s 21)
 (.seq (.reg [] [sq 22 (.bsl 1 (.int .i64 0) 1 [(0,(.c (.int .i64 1)))]),
 sq 23 (.call (.c (.fn (.func 111) [] [])) [(.s 22)]),
 sq 24 (.bsl 1 (.sl .nil []) 1 [(0,(.s 23))]),
 sa 6 (.mv (.s 24)),
 sa 7 (.mv (.c (.int .i64 0)))])
 .ret)
 .skip))
 (.seq (.reg [0,1,2] [sq 25 (.mv (.s 1)),
 sq 26 (.call (.c (.fn (.func 60) [] [])) [(.s 25)]),
 sa 8 (.mv (.s 26))])
 (.seq (.seq (.reg [0,1,2,8] [sq 27 (.mv (.s 2)),
 sq 28 (.bin .sub .num (.s 27) (.c (.int .i64 1))),
 sq 29 (.mv (.c (.int .i64 0)))])
 (.block 0
 (.loop [0,1,8,28,29] i54b0)))
 (.seq (.reg [8] [sq 42 (.mv (.s 8)),
 sa 6 (.mv (.s 42)),
 sa 7 (.mv (.c (.int .i64 0)))])
 .ret)))))) }
theorem tr54 : trF Tryz.prog h54 Tryz.f54 = some i54:=by kernel_rfl
def h55 : List (List Nat):=[[0],[0],[0,3],[0,3,4],[0,3,4],[0,3,4],[0,3,4],[3]]
def i55b0 : ICode :=
 (.seq (.seq (.reg [0,3,4] [sq 5 (.mv (.s 4)),
 sq 6 (.mv (.s 0)),
 sq 7 (.len false (.s 6)),
 sq 8 (.bin .lss .num (.s 5) (.s 7))])
 (.cond (.s 8)
 .skip
 (.exit 0)))
 (.seq (.block 1
 (.reg [0,3,4] [sq 11 (.mv (.s 3)),
 sq 12 (.mv (.s 0)),
 sq 13 (.mv (.s 4)),
 sq 14 (.idxA 1 (.s 12) (.s 13)),
 sq 15 (.load false 1 (.s 14)),
 sq 16 (.call (.c (.fn (.func 22) [] [])) [(.s 15)]),
 sq 17 (.bsl 2 (.agg [(.bool false),(.sl .nil [])]) 1 [(0,(.s 16))]),
 sq 18 (.app 2 32 (.s 11) (.s 17)),
 sa 3 (.mv (.s 18))]))
 (.reg [0,3,4] [sq 9 (.mv (.s 4)),
 sq 10 (.bin .add .num (.s 9) (.c (.int .i64 1))),
 sa 4 (.mv (.s 10))])))
def i55 : IFn:={ nparams:=1,ntmps:=21,results:=[.tmp 2],body :=
 (.seq (.reg [0] [sa 2 (.mv (.c (.sl .nil [])))])
 (.seq (.reg [0] [sa 3 (.mv (.c (.sl .nil [])))])
 (.seq (.seq (.reg [0,3] [sa 4 (.mv (.c (.int .i64 0)))])
 (.block 0
 (.loop [0,3,4] i55b0)))
 (.seq (.reg [3] [sq 19 (.mv (.s 3)),
 sq 20 (.call (.c (.fn (.func 80) [] [])) [(.s 19)]),
 sa 2 (.mv (.s 20))])
 .ret)))) }
theorem tr55 : trF Tryz.prog h55 Tryz.f55 = some i55:=by kernel_rfl
def h56 : List (List Nat):=[[0,1],[0,1],[0,1,5],[0,1,5,6],[0,1,5,6],[0,1,5,6],[0,1,5,6],[5]]
def i56b0 : ICode :=
 (.seq (.seq (.reg [0,1,5,6] [sq 7 (.mv (.s 6)),
 sq 8 (.mv (.s 0)),
 sq 9 (.len false (.s 8)),
 sq 10 (.bin .lss .num (.s 7) (.s 9)),
 sq 11 (.mv (.s 10)),
 ⟨(some 12),.mv (.s 6),(some (11,false)),[],false⟩,
 ⟨(some 13),.mv (.s 1),(some (11,false)),[],false⟩,
 ⟨(some 14),.len false (.s 13),(some (11,false)),[],false⟩,
 ⟨(some 15),.bin .lss .num (.s 12) (.s 14),(some (11,false)),[],false⟩,
 sq 16 (.pick (.s 11) (.c (.bool true)) (.s 15))])
 (.cond (.s 16)
 .skip
 (.exit 0)))
 (.seq (.block 1
 (.reg [0,1,5,6] [sq 19 (.mv (.s 5)),
 sq 20 (.mv (.s 0)),
 sq 21 (.mv (.s 6)),
 sq 22 (.call (.c (.fn (.func 112) [] [])) [(.s 20),(.s 21)]),
 sq 23 (.mv (.s 1)),
 sq 24 (.mv (.s 6)),
 sq 25 (.call (.c (.fn (.func 112) [] [])) [(.s 23),(.s 24)]),
 sq 26 (.call (.c (.fn (.func 98) [] [])) [(.s 22),(.s 25)]),
 sq 27 (.bsl 1 (.sl .nil []) 1 [(0,(.s 26))]),
 sq 28 (.app 1 24 (.s 19) (.s 27)),
 sa 5 (.mv (.s 28))]))
 (.reg [0,1,5,6] [sq 17 (.mv (.s 6)),
 sq 18 (.bin .add .num (.s 17) (.c (.int .i64 1))),
 sa 6 (.mv (.s 18))])))
def i56 : IFn:={ nparams:=2,ntmps:=31,results:=[.tmp 4],body :=
 (.seq (.reg [0,1] [sa 4 (.mv (.c (.sl .nil [])))])
 (.seq (.reg [0,1] [sa 5 (.mv (.c (.sl .nil [])))])
 (.seq (.seq (.reg [0,1,5] [sa 6 (.mv (.c (.int .i64 0)))])
 (.block 0
 (.loop [0,1,5,6] i56b0)))
 (.seq (.reg [5] [sq 29 (.mv (.s 5)),
 sq 30 (.call (.c (.fn (.func 70) [] [])) [(.s 29)]),
 sa 4 (.mv (.s 30))])
 .ret)))) }
theorem tr56 : trF Tryz.prog h56 Tryz.f56 = some i56:=by kernel_rfl
def h57 : List (List Nat):=[[0,1],[0,1]]
def i57 : IFn:={ nparams:=2,ntmps:=8,results:=[.tmp 4],body :=
 (.seq (.reg [0,1] [sa 4 (.mv (.c (.sl .nil [])))])
 (.seq (.reg [0,1] [sq 5 (.mv (.s 0)),
 sq 6 (.mv (.s 1)),
 sq 7 (.call (.c (.fn (.func 99) [] [])) [(.s 5),(.s 6),(.c (.fn (.func 113) [] []))]),
 sa 4 (.mv (.s 7))])
 .ret)) }
theorem tr57 : trF Tryz.prog h57 Tryz.f57 = some i57:=by kernel_rfl
def h58 : List (List Nat):=[[0,1],[0,1]]
def i58 : IFn:={ nparams:=2,ntmps:=11,results:=[.tmp 4],body :=
 (.seq (.reg [0,1] [sa 4 (.mv (.c (.sl .nil [])))])
 (.seq (.reg [0,1] [sq 5 (.mv (.s 0)),
 sq 6 (.bsl 1 (.int .i64 0) 1 [(0,(.c (.int .i64 (-1))))]),
 sq 7 (.call (.c (.fn (.func 55) [] [])) [(.s 6)]),
 sq 8 (.mv (.s 1)),
 sq 9 (.call (.c (.fn (.func 24) [] [])) [(.s 7),(.s 8)]),
 sq 10 (.call (.c (.fn (.func 56) [] [])) [(.s 5),(.s 9)]),
 sa 4 (.mv (.s 10))])
 .ret)) }
theorem tr58 : trF Tryz.prog h58 Tryz.f58 = some i58:=by kernel_rfl
def h59 : List (List Nat):=[[0,1],[0,1]]
def i59 : IFn:={ nparams:=2,ntmps:=10,results:=[.tmp 4],body :=
 (.seq (.reg [0,1] [sa 4 (.mv (.c (.sl .nil [])))])
 (.seq (.reg [0,1] [sq 5 (.mv (.s 1)),
 sq 6 (.mv (.s 0)),
 sq 7 (.build [(.sl .nil [])] [(0,1,(.s 6))]),
 sq 8 (.mkfn (.func 114) [(.s 7)] []),
 sq 9 (.call (.c (.fn (.func 39) [] [])) [(.s 5),(.s 8)]),
 sa 4 (.mv (.s 9))])
 .ret)) }
theorem tr59 : trF Tryz.prog h59 Tryz.f59 = some i59:=by kernel_rfl
def h60 : List (List Nat):=[[0],[0]]
def i60 : IFn:={ nparams:=1,ntmps:=5,results:=[.tmp 2],body :=
 (.seq (.reg [0] [sa 2 (.mv (.c (.sl .nil [])))])
 (.seq (.reg [0] [sq 3 (.mv (.s 0)),
 sq 4 (.call (.c (.fn (.func 39) [] [])) [(.s 3),(.c .nilFn)]),
 sa 2 (.mv (.s 4))])
 .ret)) }
theorem tr60 : trF Tryz.prog h60 Tryz.f60 = some i60:=by kernel_rfl
def h61 : List (List Nat):=[[0],[0],[0],[0],[]]
def i61 : IFn:={ nparams:=1,ntmps:=15,results:=[.tmp 2],body :=
 (.seq (.reg [0] [sa 2 (.mv (.c (.sl .nil [])))])
 (.seq (.seq (.reg [0] [sq 3 (.mv (.s 0)),
 sq 4 (.call (.c (.fn (.func 83) [] [])) [(.s 3)]),
 sa 0 (.mv (.s 4))])
 (.seq (.reg [0] [sq 5 (.mv (.s 0)),
 sq 6 (.len false (.s 5)),
 sq 7 (.bin .gtr .num (.s 6) (.c (.int .i64 0)))])
 (.cond (.s 7)
 (.seq (.reg [0] [sq 8 (.mv (.s 0)),
 sq 9 (.mv (.s 0)),
 sq 10 (.len false (.s 9)),
 sq 11 (.bin .sub .num (.s 10) (.c (.int .i64 1))),
 sq 12 (.idxA 1 (.s 8) (.s 11)),
 sq 13 (.load false 1 (.s 12)),
 sq 14 (.call (.c (.fn (.func 93) [] [])) [(.s 13)]),
 sa 2 (.mv (.s 14))])
 .ret)
 .skip)))
 (.seq (.reg [] [sa 2 (.mv (.c (.sl .nil [])))])
 .ret))) }
theorem tr61 : trF Tryz.prog h61 Tryz.f61 = some i61:=by kernel_rfl
def h62 : List (List Nat):=[[0],[0]]
def i62 : IFn:={ nparams:=1,ntmps:=8,results:=[.tmp 2],body :=
 (.seq (.reg [0] [sa 2 (.mv (.c (.sl .nil [])))])
 (.seq (.reg [0] [sq 3 (.mv (.s 0)),
 sq 4 (.mv (.s 0)),
 sq 5 (.len false (.s 4)),
 sq 6 (.bin .sub .num (.s 5) (.c (.int .i64 1))),
 sq 7 (.call (.c (.fn (.func 112) [] [])) [(.s 3),(.s 6)]),
 sa 2 (.mv (.s 7))])
 .ret)) }
theorem tr62 : trF Tryz.prog h62 Tryz.f62 = some i62:=by kernel_rfl
def h63 : List (List Nat):=[[0],[0]]
def i63 : IFn:={ nparams:=1,ntmps:=6,results:=[.tmp 2],body :=
 (.seq (.reg [0] [sa 2 (.mv (.c (.int .i64 0)))])
 (.seq (.reg [0] [sq 3 (.mv (.s 0)),
 sq 4 (.len false (.s 3)),
 sq 5 (.bin .sub .num (.s 4) (.c (.int .i64 1))),
 sa 2 (.mv (.s 5))])
 .ret)) }
theorem tr63 : trF Tryz.prog h63 Tryz.f63 = some i63:=by kernel_rfl
def h64 : List (List Nat):=[[0],[0],[0,3],[3,6,7,8],[3,6,7,8],[3,6,7,8],[3,5,6,7,8],[3,6,7,8],[3]]
def i64b0 : ICode :=
 (.seq (.reg [3,6,7,8] [sq 9 (.bin .lss .num (.s 8) (.s 7))])
 (.seq (.cond (.s 9)
 .skip
 (.exit 0))
 (.seq (.block 1
 (.seq (.reg [3,6,7,8] [sq 10 (.idxA 1 (.s 6) (.s 8)),
 sq 11 (.load false 1 (.s 10)),
 sa 5 (.mv (.s 11))])
 (.reg [3,5,6,7,8] [sq 12 (.mv (.s 3)),
 sq 13 (.mv (.s 5)),
 sq 14 (.call (.c (.fn (.func 115) [] [])) [(.s 13)]),
 sq 15 (.mx [(.s 12),(.s 14)]),
 sa 3 (.mv (.s 15))])))
 (.reg [3,6,7,8] [sq 16 (.bin .add .num (.s 8) (.c (.int .i64 1))),
 sq 8 (.mv (.s 16))]))))
def i64 : IFn:={ nparams:=1,ntmps:=18,results:=[.tmp 2],body :=
 (.seq (.reg [0] [sa 2 (.mv (.c (.int .i64 0)))])
 (.seq (.reg [0] [sa 3 (.mv (.c (.int .i64 (-1))))])
 (.seq (.seq (.reg [0,3] [sq 6 (.mv (.s 0)),
 sq 7 (.len false (.s 6)),
 sq 8 (.mv (.c (.int .i64 0)))])
 (.block 0
 (.loop [3,6,7,8] i64b0)))
 (.seq (.reg [3] [sq 17 (.mv (.s 3)),
 sa 2 (.mv (.s 17))])
 .ret)))) }
theorem tr64 : trF Tryz.prog h64 Tryz.f64 = some i64:=by kernel_rfl
def h65 : List (List Nat):=[[0],[0],[0,3],[0,3,4],[0,3,4],[0,3,4],[0,3,4,5],[0,4,5],[0,3,4],[3]]
def i65b0 : ICode :=
 (.seq (.seq (.reg [0,3,4] [sq 6 (.mv (.s 4)),
 sq 7 (.mv (.s 0)),
 sq 8 (.len false (.s 7)),
 sq 9 (.bin .lss .num (.s 6) (.s 8))])
 (.cond (.s 9)
 .skip
 (.exit 0)))
 (.seq (.block 1
 (.seq (.reg [0,3,4] [sq 12 (.mv (.s 0)),
 sq 13 (.mv (.s 4)),
 sq 14 (.idxA 1 (.s 12) (.s 13)),
 sq 15 (.load false 1 (.s 14)),
 sq 16 (.call (.c (.fn (.func 96) [] [])) [(.s 15)]),
 sa 5 (.mv (.s 16))])
 (.seq (.reg [0,3,4,5] [sq 17 (.mv (.s 5)),
 sq 18 (.mv (.s 3)),
 sq 19 (.bin .gtr .num (.s 17) (.s 18))])
 (.cond (.s 19)
 (.reg [0,4,5] [sq 20 (.mv (.s 5)),
 sa 3 (.mv (.s 20))])
 .skip))))
 (.reg [0,3,4] [sq 10 (.mv (.s 4)),
 sq 11 (.bin .add .num (.s 10) (.c (.int .i64 1))),
 sa 4 (.mv (.s 11))])))
def i65 : IFn:={ nparams:=1,ntmps:=22,results:=[.tmp 2],body :=
 (.seq (.reg [0] [sa 2 (.mv (.c (.int .i64 0)))])
 (.seq (.reg [0] [sa 3 (.mv (.c (.int .i64 (-1))))])
 (.seq (.seq (.reg [0,3] [sa 4 (.mv (.c (.int .i64 0)))])
 (.block 0
 (.loop [0,3,4] i65b0)))
 (.seq (.reg [3] [sq 21 (.mv (.s 3)),
 sa 2 (.mv (.s 21))])
 .ret)))) }
theorem tr65 : trF Tryz.prog h65 Tryz.f65 = some i65:=by kernel_rfl
def h66 : List (List Nat):=[[0],[0],[0,3],[3,6,7,8],[3,6,7,8],[3,6,7,8],[3,5,6,7,8],[3,6,7,8],[3]]
def i66b0 : ICode :=
 (.seq (.reg [3,6,7,8] [sq 9 (.bin .lss .num (.s 8) (.s 7))])
 (.seq (.cond (.s 9)
 .skip
 (.exit 0))
 (.seq (.block 1
 (.seq (.reg [3,6,7,8] [sq 10 (.idxA 1 (.s 6) (.s 8)),
 sq 11 (.load false 1 (.s 10)),
 sa 5 (.mv (.s 11))])
 (.reg [3,5,6,7,8] [sq 12 (.mv (.s 3)),
 sq 13 (.mv (.s 5)),
 sq 14 (.call (.c (.fn (.func 116) [] [])) [(.s 13)]),
 sq 15 (.mx [(.s 12),(.s 14)]),
 sa 3 (.mv (.s 15))])))
 (.reg [3,6,7,8] [sq 16 (.bin .add .num (.s 8) (.c (.int .i64 1))),
 sq 8 (.mv (.s 16))]))))
def i66 : IFn:={ nparams:=1,ntmps:=18,results:=[.tmp 2],body :=
 (.seq (.reg [0] [sa 2 (.mv (.c (.int .i64 0)))])
 (.seq (.reg [0] [sa 3 (.mv (.c (.int .i64 0)))])
 (.seq (.seq (.reg [0,3] [sq 6 (.mv (.s 0)),
 sq 7 (.len false (.s 6)),
 sq 8 (.mv (.c (.int .i64 0)))])
 (.block 0
 (.loop [3,6,7,8] i66b0)))
 (.seq (.reg [3] [sq 17 (.mv (.s 3)),
 sa 2 (.mv (.s 17))])
 .ret)))) }
theorem tr66 : trF Tryz.prog h66 Tryz.f66 = some i66:=by kernel_rfl
def h67 : List (List Nat):=[[0],[0],[0,3],[0,3,4],[0,3,4],[0,3,4],[0,3,4,5],[0,4,5],[0,3,4],[3]]
def i67b0 : ICode :=
 (.seq (.seq (.reg [0,3,4] [sq 6 (.mv (.s 4)),
 sq 7 (.mv (.s 0)),
 sq 8 (.len false (.s 7)),
 sq 9 (.bin .lss .num (.s 6) (.s 8))])
 (.cond (.s 9)
 .skip
 (.exit 0)))
 (.seq (.block 1
 (.seq (.reg [0,3,4] [sq 12 (.mv (.s 0)),
 sq 13 (.mv (.s 4)),
 sq 14 (.idxA 1 (.s 12) (.s 13)),
 sq 15 (.load false 1 (.s 14)),
 sq 16 (.call (.c (.fn (.func 97) [] [])) [(.s 15)]),
 sa 5 (.mv (.s 16))])
 (.seq (.reg [0,3,4,5] [sq 17 (.mv (.s 5)),
 sq 18 (.mv (.s 3)),
 sq 19 (.bin .gtr .num (.s 17) (.s 18))])
 (.cond (.s 19)
 (.reg [0,4,5] [sq 20 (.mv (.s 5)),
 sa 3 (.mv (.s 20))])
 .skip))))
 (.reg [0,3,4] [sq 10 (.mv (.s 4)),
 sq 11 (.bin .add .num (.s 10) (.c (.int .i64 1))),
 sa 4 (.mv (.s 11))])))
def i67 : IFn:={ nparams:=1,ntmps:=22,results:=[.tmp 2],body :=
 (.seq (.reg [0] [sa 2 (.mv (.c (.int .i64 0)))])
 (.seq (.reg [0] [sa 3 (.mv (.c (.int .i64 0)))])
 (.seq (.seq (.reg [0,3] [sa 4 (.mv (.c (.int .i64 0)))])
 (.block 0
 (.loop [0,3,4] i67b0)))
 (.seq (.reg [3] [sq 21 (.mv (.s 3)),
 sa 2 (.mv (.s 21))])
 .ret)))) }
theorem tr67 : trF Tryz.prog h67 Tryz.f67 = some i67:=by kernel_rfl
def h68 : List (List Nat):=[[0,1],[0,1],[],[0,1],[0,1,5],[0,1,5],[0,1,5],[0,1,5,6],[],[0,1,5],[]]
def i68d0 : List IStep:=[sq 18 (.mv (.s 0)),
 sq 19 (.mv (.s 5)),
 ⟨(some 20),.idxA 1 (.s 18) (.s 19),none,[0,1],false⟩,
 ⟨(some 21),.load false 1 (.s 20),none,[2],false⟩,
 sq 22 (.mv (.s 1)),
 sq 23 (.mv (.s 5)),
 ⟨(some 24),.idxA 1 (.s 22) (.s 23),none,[4,5],false⟩,
 ⟨(some 25),.load false 1 (.s 24),none,[6],false⟩,
 ⟨(some 26),.call (.c (.fn (.func 117) [] [])) [(.s 21),(.s 25)],none,[3,7],false⟩,
 ⟨(some 6),.mv (.s 26),none,[8,0,1,2,3,4,5,6,7],true⟩]
theorem i68d0t : tame i68d0 = true:=by kernel_rfl
def i68b0 : ICode :=
 (.seq (.seq (.reg [0,1,5] [sq 12 (.mv (.s 5)),
 sq 13 (.mv (.s 0)),
 sq 14 (.len false (.s 13)),
 sq 15 (.bin .lss .num (.s 12) (.s 14))])
 (.cond (.s 15)
 .skip
 (.exit 0)))
 (.seq (.block 1
 (.seq (.draw [0,1,5] i68d0)
 (.seq (.reg [0,1,5,6] [sq 27 (.mv (.s 6)),
 sq 28 (.un .not (.s 27))])
 (.cond (.s 28)
 (.seq (.reg [] [sa 4 (.mv (.c (.bool false)))])
 .ret)
 .skip))))
 (.reg [0,1,5] [sq 16 (.mv (.s 5)),
 sq 17 (.bin .add .num (.s 16) (.c (.int .i64 1))),
 sa 5 (.mv (.s 17))])))
def i68 : IFn:={ nparams:=2,ntmps:=29,results:=[.tmp 4],body :=
 (.seq (.reg [0,1] [sa 4 (.mv (.c (.bool false)))])
 (.seq (.seq (.reg [0,1] [sq 7 (.mv (.s 0)),
 sq 8 (.len false (.s 7)),
 sq 9 (.mv (.s 1)),
 sq 10 (.len false (.s 9)),
 sq 11 (.bin .neq .num (.s 8) (.s 10))])
 (.cond (.s 11)
 (.seq (.reg [] [sa 4 (.mv (.c (.bool false)))])
 .ret)
 .skip))
 (.seq (.seq (.reg [0,1] [sa 5 (.mv (.c (.int .i64 0)))])
 (.block 0
 (.loop [0,1,5] i68b0)))
 (.seq (.reg [] [sa 4 (.mv (.c (.bool true)))])
 .ret)))) }
theorem tr68 : trF Tryz.prog h68 Tryz.f68 = some i68:=by kernel_rfl
def h69 : List (List Nat):=[[0],[0],[0,3],[0,3,4],[0,3,4],[0,3,4],[0,3,4],[3]]
def i69b0 : ICode :=
 (.seq (.seq (.reg [0,3,4] [sq 5 (.mv (.s 4)),
 sq 6 (.mv (.s 0)),
 sq 7 (.len false (.s 6)),
 sq 8 (.bin .lss .num (.s 5) (.s 7))])
 (.cond (.s 8)
 .skip
 (.exit 0)))
 (.seq (.block 1
 (.reg [0,3,4] [sq 11 (.mv (.s 3)),
 sq 12 (.mv (.s 0)),
 sq 13 (.mv (.s 4)),
 sq 14 (.idxA 1 (.s 12) (.s 13)),
 sq 15 (.load false 1 (.s 14)),
 sq 16 (.bsl 1 (.sl .nil []) 1 [(0,(.s 15))]),
 sq 17 (.app 1 24 (.s 11) (.s 16)),
 sa 3 (.mv (.s 17))]))
 (.reg [0,3,4] [sq 9 (.mv (.s 4)),
 sq 10 (.bin .add .num (.s 9) (.c (.int .i64 1))),
 sa 4 (.mv (.s 10))])))
def i69 : IFn:={ nparams:=1,ntmps:=21,results:=[.tmp 2],body :=
 (.seq (.reg [0] [sa 2 (.mv (.c (.sl .nil [])))])
 (.seq (.reg [0] [sa 3 (.mv (.c (.sl .nil [])))])
 (.seq (.seq (.reg [0,3] [sa 4 (.mv (.c (.int .i64 0)))])
 (.block 0
 (.loop [0,3,4] i69b0)))
 (.seq (.reg [3] [sq 18 (.mv (.s 3)),
 sq 19 (.call (.c (.fn (.func 70) [] [])) [(.s 18)]),
 sq 20 (.call (.c (.fn (.func 23) [] [])) [(.s 19)]),
 sa 2 (.mv (.s 20))])
 .ret)))) }
theorem tr69 : trF Tryz.prog h69 Tryz.f69 = some i69:=by kernel_rfl
def h70 : List (List Nat):=[[0],[0],[0,3],[0,3],[0,3],[0,3]]
def i70b0 : ICode :=
 (.seq (.seq (.reg [0,3] [sq 6 (.mv (.s 3)),
 sq 7 (.bin .gtr .num (.s 6) (.c (.int .i64 0))),
 sq 8 (.mv (.s 7)),
 ⟨(some 9),.mv (.s 0),(some (8,true)),[],false⟩,
 ⟨(some 10),.mv (.s 3),(some (8,true)),[],false⟩,
 ⟨(some 11),.bin .sub .num (.s 10) (.c (.int .i64 1)),(some (8,true)),[],false⟩,
 ⟨(some 12),.idxA 1 (.s 9) (.s 11),(some (8,true)),[],false⟩,
 ⟨(some 13),.load false 1 (.s 12),(some (8,true)),[],false⟩,
 ⟨(some 14),.len false (.s 13),(some (8,true)),[],false⟩,
 ⟨(some 15),.bin .eql .num (.s 14) (.c (.int .i64 0)),(some (8,true)),[],false⟩,
 sq 16 (.pick (.s 8) (.s 15) (.c (.bool false)))])
 (.cond (.s 16)
 .skip
 (.exit 0)))
 (.block 1
 (.reg [0,3] [sq 17 (.mv (.s 3)),
 sq 18 (.bin .sub .num (.s 17) (.c (.int .i64 1))),
 sa 3 (.mv (.s 18))])))
def i70 : IFn:={ nparams:=1,ntmps:=23,results:=[.tmp 2],body :=
 (.seq (.reg [0] [sa 2 (.mv (.c (.sl .nil [])))])
 (.seq (.reg [0] [sq 4 (.mv (.s 0)),
 sq 5 (.len false (.s 4)),
 sa 3 (.mv (.s 5))])
 (.seq (.block 0
 (.loop [0,3] i70b0))
 (.seq (.reg [0,3] [sq 19 (.mv (.s 0)),
 sq 20 (.mv (.s 3)),
 sq 21 (.mv (.s 3)),
 sq 22 (.slice 1 (.s 19) none (some (.s 20)) (some (.s 21))),
 sa 2 (.mv (.s 22))])
 .ret)))) }
theorem tr70 : trF Tryz.prog h70 Tryz.f70 = some i70:=by kernel_rfl
def h71 : List (List Nat):=[[0,1,2],[0,1,5],[7,8,9],[7,8,10]]
def i71d0 : List IStep:=[sq 11 (.mv (.s 0)),
 ⟨(some 12),.call (.c (.fn (.func 118) [] [])) [(.s 11)],none,[0],false⟩,
 sq 13 (.mv (.s 1)),
 ⟨(some 14),.call (.c (.fn (.func 118) [] [])) [(.s 13)],none,[2,1],false⟩,
 sq 15 (.load true 2 (.s 5)),
 ⟨(some 16),.call (.c (.fn (.func 119) [] [])) [(.s 15)],none,[4,3],false⟩,
 sq 7 (.alloc 3 (.agg [(.int .i64 0),(.int .i64 0),(.int .i64 0)])),
 sq 8 (.alloc 3 (.agg [(.int .i64 0),(.int .i64 0),(.int .i64 0)])),
 ⟨none,.store 3 (.s 7) (.s 12),none,[6,1,5,0,7],false⟩,
 ⟨none,.store 3 (.s 8) (.s 14),none,[7,3,8,0,1,2,6],false⟩,
 ⟨(some 9),.mv (.s 16),none,[5,9,0,1,2,3,4,6,7,8],true⟩]
theorem i71d0t : tame i71d0 = false:=by kernel_rfl
def i71d1 : List IStep:=[sq 17 (.fldA 2 false 1 (.s 7)),
 ⟨(some 18),.load false 1 (.s 17),none,[0],false⟩,
 sq 19 (.fldA 2 false 1 (.s 8)),
 ⟨(some 20),.load false 1 (.s 19),none,[2],false⟩,
 sq 21 (.fldA 0 false 1 (.s 7)),
 ⟨(some 22),.load false 1 (.s 21),none,[4],false⟩,
 ⟨(some 23),.bin .add .num (.s 22) (.c (.int .i64 1)),none,[5],false⟩,
 sq 24 (.fldA 1 false 1 (.s 8)),
 ⟨(some 25),.load false 1 (.s 24),none,[7],false⟩,
 ⟨(some 26),.bin .add .num (.s 25) (.c (.int .i64 1)),none,[8],false⟩,
 ⟨(some 27),.bsl 1 (.int .i64 0) 2 [(0,(.s 23)),(1,(.s 26))],none,[6,9],false⟩,
 ⟨(some 28),.call (.c (.fn (.func 121) [] [])) [(.s 27)],none,[10],false⟩,
 sq 29 (.fldA 0 false 1 (.s 7)),
 ⟨(some 30),.load false 1 (.s 29),none,[12],false⟩,
 sq 31 (.fldA 1 false 1 (.s 8)),
 ⟨(some 32),.load false 1 (.s 31),none,[14],false⟩,
 ⟨(some 33),.bin .add .num (.s 32) (.c (.int .i64 1)),none,[15],false⟩,
 sq 34 (.mv (.s 9)),
 ⟨(some 35),.bsl 1 (.int .i64 0) 3 [(0,(.s 30)),(1,(.s 33)),(2,(.s 34))],none,[13,16,17],false⟩,
 ⟨(some 36),.call (.c (.fn (.func 121) [] [])) [(.s 35)],none,[18,11],false⟩,
 ⟨(some 37),.bsl 1 (.int .i64 0) 5 [(0,(.s 18)),(1,(.s 20)),(2,(.s 28)),(3,(.s 36)),(4,(.c (.int .i64 8)))],none,[1,3,11,19],false⟩,
 ⟨(some 38),.call (.c (.fn (.func 120) [] [])) [(.s 37)],none,[20,19],false⟩,
 ⟨(some 10),.mv (.s 38),none,[21,0,1,2,3,4,5,6,7,8,9,10,11,12,13,14,15,16,17,18,19,20],true⟩]
theorem i71d1t : tame i71d1 = true:=by kernel_rfl
def i71d2 : List IStep:=[sq 39 (.fldA 0 false 1 (.s 7)),
 ⟨(some 40),.load false 1 (.s 39),none,[0],false⟩,
 ⟨(some 41),.bin .add .num (.s 40) (.c (.int .i64 1)),none,[1],false⟩,
 sq 42 (.fldA 0 false 1 (.s 8)),
 ⟨(some 43),.load false 1 (.s 42),none,[3],false⟩,
 ⟨(some 44),.bin .add .num (.s 43) (.c (.int .i64 1)),none,[4],false⟩,
 sq 45 (.fldA 1 false 1 (.s 7)),
 ⟨(some 46),.load false 1 (.s 45),none,[6],false⟩,
 sq 47 (.fldA 1 false 1 (.s 8)),
 ⟨(some 48),.load false 1 (.s 47),none,[8],false⟩,
 ⟨(some 49),.bsl 1 (.int .i64 0) 3 [(0,(.s 46)),(1,(.s 48)),(2,(.c (.int .i64 2)))],none,[7,9],false⟩,
 ⟨(some 50),.call (.c (.fn (.func 120) [] [])) [(.s 49)],none,[10],false⟩,
 sq 51 (.mv (.s 10)),
 ⟨(some 52),.bsl 1 (.int .i64 0) 4 [(0,(.s 41)),(1,(.s 44)),(2,(.s 50)),(3,(.s 51))],none,[2,5,11,12],false⟩,
 ⟨(some 53),.call (.c (.fn (.func 122) [] [])) [(.s 52)],none,[13,11],false⟩,
 ⟨(some 6),.mv (.s 53),none,[14,0,1,2,3,4,5,6,7,8,9,10,11,12,13],true⟩]
theorem i71d2t : tame i71d2 = true:=by kernel_rfl
def i71 : IFn:={ nparams:=3,ntmps:=54,results:=[.tmp 6],body :=
 (.seq (.reg [0,1,2] [sq 5 (.box 2 (.s 2)),
 sa 6 (.mv (.c (.int .i64 0)))])
 (.seq (.draw [0,1,5] i71d0)
 (.seq (.draw [7,8,9] i71d1)
 (.seq (.draw [7,8,10] i71d2)
 .ret)))) }
theorem tr71 : trF Tryz.prog h71 Tryz.f71 = some i71:=by kernel_rfl
def h72 : List (List Nat):=[[0,1,2,3],[0,1,2,3],[0,1,2,3,9],[0,1,2,3,9],[1,2,3,9,15,16,17],[1,2,3,9,15,16,17],[1,2,3,9,15,16,17],[1,2,3,9,10,11,15,16,17],[1,2,3,9,11,15,16,17],[1,2,3,9,11,15,16,17],[1,2,3,9,15,16,17],[9]]
def i72b0 : ICode :=
 (.seq (.reg [1,2,3,9,15,16,17] [sq 18 (.bin .lss .num (.s 17) (.s 16))])
 (.seq (.cond (.s 18)
 .skip
 (.exit 0))
 (.seq (.block 1
 (.seq (.reg [1,2,3,9,15,16,17] [sq 19 (.mv (.s 17)),
 sq 20 (.idxA 1 (.s 15) (.s 17)),
 sq 21 (.load false 1 (.s 20)),
 sa 10 (.mv (.s 19)),
 sa 11 (.mv (.s 21))])
 (.seq (.seq (.reg [1,2,3,9,10,11,15,16,17] [sq 22 (.mv (.s 10)),
 sq 23 (.bin .gtr .num (.s 22) (.c (.int .i64 0)))])
 (.cond (.s 23)
 (.reg [1,2,3,9,11,15,16,17] [sq 24 (.mv (.s 1)),
 sq 25 (.mv (.s 2)),
 sq 26 (.mv (.s 3)),
 sq 27 (.call (.c (.fn (.func 123) [] [])) [(.s 24),(.s 25),(.s 26)]),
 sa 1 (.mv (.s 27))])
 .skip))
 (.reg [1,2,3,9,11,15,16,17] [sq 28 (.mv (.s 9)),
 sq 29 (.mv (.s 11)),
 sq 30 (.mv (.s 1)),
 sq 31 (.call (.c (.fn (.func 59) [] [])) [(.s 29),(.s 30)]),
 sq 32 (.call (.c (.fn (.func 36) [] [])) [(.s 28),(.s 31)]),
 sa 9 (.mv (.s 32))]))))
 (.reg [1,2,3,9,15,16,17] [sq 33 (.bin .add .num (.s 17) (.c (.int .i64 1))),
 sq 17 (.mv (.s 33))]))))
def i72 : IFn:={ nparams:=4,ntmps:=36,results:=[.tmp 8],body :=
 (.seq (.reg [0,1,2,3] [sa 8 (.mv (.c (.sl .nil [])))])
 (.seq (.reg [0,1,2,3] [sa 9 (.mv (.c (.sl .nil [])))])
 (.seq (.reg [0,1,2,3,9] [sq 12 (.mv (.s 1)),
 sq 13 (.call (.c (.fn (.func 60) [] [])) [(.s 12)]),
 sa 1 (.mv (.s 13))])
 (.seq (.seq (.reg [0,1,2,3,9] [sq 14 (.mv (.s 0)),
 sq 15 (.call (.c (.fn (.func 83) [] [])) [(.s 14)]),
 sq 16 (.len false (.s 15)),
 sq 17 (.mv (.c (.int .i64 0)))])
 (.block 0
 (.loop [1,2,3,9,15,16,17] i72b0)))
 (.seq (.reg [9] [sq 34 (.mv (.s 9)),
 sq 35 (.call (.c (.fn (.func 60) [] [])) [(.s 34)]),
 sa 8 (.mv (.s 35))])
 .ret))))) }
theorem tr72 : trF Tryz.prog h72 Tryz.f72 = some i72:=by kernel_rfl
def h73 : List (List Nat):=[[0],[0],[],[0]]
def i73 : IFn:={ nparams:=1,ntmps:=14,results:=[.tmp 2,.tmp 3,.tmp 4],body :=
 (.seq (.reg [0] [sa 2 (.mv (.c (.int .i64 0))),
 sa 3 (.mv (.c (.int .i64 0))),
 sa 4 (.mv (.c (.int .i64 0)))])
 (.seq (.seq (.reg [0] [sq 5 (.mv (.s 0)),
 sq 6 (.len false (.s 5)),
 sq 7 (.bin .eql .num (.s 6) (.c (.int .i64 0)))])
 (.cond (.s 7)
 (.seq (.reg [] [sa 2 (.mv (.c (.int .i64 0))),
 sa 3 (.mv (.c (.int .i64 0))),
 sa 4 (.mv (.c (.int .i64 0)))])
 .ret)
 .skip))
 (.seq (.reg [0] [sq 8 (.mv (.s 0)),
 sq 9 (.call (.c (.fn (.func 63) [] [])) [(.s 8)]),
 sq 10 (.mv (.s 0)),
 sq 11 (.call (.c (.fn (.func 65) [] [])) [(.s 10)]),
 sq 12 (.mv (.s 0)),
 sq 13 (.call (.c (.fn (.func 67) [] [])) [(.s 12)]),
 sa 2 (.mv (.s 9)),
 sa 3 (.mv (.s 11)),
 sa 4 (.mv (.s 13))])
 .ret))) }
theorem tr73 : trF Tryz.prog h73 Tryz.f73 = some i73:=by kernel_rfl
def h74 : List (List Nat):=[[0],[1],[1,3],[],[1,3],[1,3,4],[3,4,5],[3,4,5],[3,4,5],[3,4,5],[3,4]]
def i74b0 : ICode :=
 (.seq (.seq (.reg [3,4,5] [sq 17 (.mv (.s 5)),
 sq 18 (.bin .gtr .num (.s 17) (.c (.int .i64 0)))])
 (.cond (.s 18)
 .skip
 (.exit 0)))
 (.seq (.block 1
 (.reg [3,4,5] [sq 21 (.mv (.s 4)),
 sq 22 (.bin .add .num (.s 21) (.c (.int .i64 1))),
 sa 4 (.mv (.s 22))]))
 (.reg [3,4,5] [sq 19 (.mv (.s 5)),
 sq 20 (.bin .quo .num (.s 19) (.c (.int .i64 2))),
 sa 5 (.mv (.s 20))])))
def i74 : IFn:={ nparams:=1,ntmps:=28,results:=[.tmp 2],body :=
 (.seq (.reg [0] [sq 1 (.box 2 (.s 0)),
 sa 2 (.mv (.c (.int .i64 0)))])
 (.seq (.reg [1] [sq 6 (.fldA 1 false 1 (.s 1)),
 sq 7 (.load false 1 (.s 6)),
 sq 8 (.len false (.s 7)),
 sa 3 (.mv (.s 8))])
 (.seq (.seq (.reg [1,3] [sq 9 (.mv (.s 3)),
 sq 10 (.bin .eql .num (.s 9) (.c (.int .i64 0)))])
 (.cond (.s 10)
 (.seq (.reg [] [sa 2 (.mv (.c (.int .i64 0)))])
 .ret)
 .skip))
 (.seq (.reg [1,3] [sa 4 (.mv (.c (.int .i64 0)))])
 (.seq (.seq (.reg [1,3,4] [sq 11 (.fldA 1 false 1 (.s 1)),
 sq 12 (.load false 1 (.s 11)),
 sq 13 (.mv (.s 3)),
 sq 14 (.bin .sub .num (.s 13) (.c (.int .i64 1))),
 sq 15 (.idxA 1 (.s 12) (.s 14)),
 sq 16 (.load false 1 (.s 15)),
 sa 5 (.mv (.s 16))])
 (.block 0
 (.loop [3,4,5] i74b0)))
 (.seq (.reg [3,4] [sq 23 (.mv (.s 3)),
 sq 24 (.bin .sub .num (.s 23) (.c (.int .i64 1))),
 sq 25 (.bin .mul .num (.c (.int .i64 16)) (.s 24)),
 sq 26 (.mv (.s 4)),
 sq 27 (.bin .add .num (.s 25) (.s 26)),
 sa 2 (.mv (.s 27))])
 .ret)))))) }
theorem tr74 : trF Tryz.prog h74 Tryz.f74 = some i74:=by kernel_rfl
def h75 : List (List Nat):=[[0],[0],[0,3],[0,3,4],[0,3,4],[0,3,4],[0,3,4],[0,3,4],[3]]
def i75b0 : ICode :=
 (.seq (.seq (.reg [0,3,4] [sq 5 (.mv (.s 4)),
 sq 6 (.mv (.s 0)),
 sq 7 (.len false (.s 6)),
 sq 8 (.bin .lss .num (.s 5) (.s 7))])
 (.cond (.s 8)
 .skip
 (.exit 0)))
 (.seq (.block 1
 (.seq (.reg [0,3,4] [sq 11 (.mv (.s 0)),
 sq 12 (.mv (.s 4)),
 sq 13 (.idxA 1 (.s 11) (.s 12)),
 sq 14 (.load false 1 (.s 13)),
 sq 15 (.bin .gtr .num (.s 14) (.c (.int .i64 1)))])
 (.cond (.s 15)
 (.reg [0,3,4] [sq 16 (.mv (.s 3)),
 sq 17 (.mv (.s 0)),
 sq 18 (.mv (.s 4)),
 sq 19 (.idxA 1 (.s 17) (.s 18)),
 sq 20 (.load false 1 (.s 19)),
 sq 21 (.call (.c (.fn (.func 77) [] [])) [(.s 16),(.s 20)]),
 sa 3 (.mv (.s 21))])
 .skip)))
 (.reg [0,3,4] [sq 9 (.mv (.s 4)),
 sq 10 (.bin .add .num (.s 9) (.c (.int .i64 1))),
 sa 4 (.mv (.s 10))])))
def i75 : IFn:={ nparams:=1,ntmps:=23,results:=[.tmp 2],body :=
 (.seq (.reg [0] [sa 2 (.mv (.c (.int .i64 0)))])
 (.seq (.reg [0] [sa 3 (.mv (.c (.int .i64 1)))])
 (.seq (.seq (.reg [0,3] [sa 4 (.mv (.c (.int .i64 0)))])
 (.block 0
 (.loop [0,3,4] i75b0)))
 (.seq (.reg [3] [sq 22 (.mv (.s 3)),
 sa 2 (.mv (.s 22))])
 .ret)))) }
theorem tr75 : trF Tryz.prog h75 Tryz.f75 = some i75:=by kernel_rfl
def h76 : List (List Nat):=[[0],[0],[0,3],[0,3,4],[0,3,4],[0,3,4],[0,3,4],[3]]
def i76b0 : ICode :=
 (.seq (.seq (.reg [0,3,4] [sq 5 (.mv (.s 4)),
 sq 6 (.mv (.s 0)),
 sq 7 (.len false (.s 6)),
 sq 8 (.bin .lss .num (.s 5) (.s 7))])
 (.cond (.s 8)
 .skip
 (.exit 0)))
 (.seq (.block 1
 (.reg [0,3,4] [sq 11 (.mv (.s 3)),
 sq 12 (.mv (.s 0)),
 sq 13 (.mv (.s 4)),
 sq 14 (.idxA 1 (.s 12) (.s 13)),
 sq 15 (.load false 1 (.s 14)),
 sq 16 (.call (.c (.fn (.func 124) [] [])) [(.s 11),(.s 15)]),
 sa 3 (.mv (.s 16))]))
 (.reg [0,3,4] [sq 9 (.mv (.s 4)),
 sq 10 (.bin .add .num (.s 9) (.c (.int .i64 1))),
 sa 4 (.mv (.s 10))])))
def i76 : IFn:={ nparams:=1,ntmps:=18,results:=[.tmp 2],body :=
 (.seq (.reg [0] [sa 2 (.mv (.c (.int .i64 0)))])
 (.seq (.reg [0] [sa 3 (.mv (.c (.int .i64 0)))])
 (.seq (.seq (.reg [0,3] [sa 4 (.mv (.c (.int .i64 0)))])
 (.block 0
 (.loop [0,3,4] i76b0)))
 (.seq (.reg [3] [sq 17 (.mv (.s 3)),
 sa 2 (.mv (.s 17))])
 .ret)))) }
theorem tr76 : trF Tryz.prog h76 Tryz.f76 = some i76:=by kernel_rfl
def h77 : List (List Nat):=[[0,1],[0,1],[1],[0,1],[],[0,1]]
def i77 : IFn:={ nparams:=2,ntmps:=18,results:=[.tmp 4],body :=
 (.seq (.reg [0,1] [sa 4 (.mv (.c (.int .i64 0)))])
 (.seq (.seq (.reg [0,1] [sq 5 (.mv (.s 0)),
 sq 6 (.bin .gtr .num (.s 5) (.c (.int .i64 4611686018427387904)))])
 (.cond (.s 6)
 (.reg [1] [sa 0 (.mv (.c (.int .i64 4611686018427387904)))])
 .skip))
 (.seq (.seq (.reg [0,1] [sq 7 (.mv (.s 0)),
 sq 8 (.bin .neq .num (.s 7) (.c (.int .i64 0))),
 sq 9 (.mv (.s 8)),
 ⟨(some 10),.mv (.s 1),(some (9,true)),[],false⟩,
 ⟨(some 11),.mv (.s 0),(some (9,true)),[],false⟩,
 ⟨(some 12),.bin .quo .num (.c (.int .i64 4611686018427387904)) (.s 11),(some (9,true)),[],false⟩,
 ⟨(some 13),.bin .gtr .num (.s 10) (.s 12),(some (9,true)),[],false⟩,
 sq 14 (.pick (.s 9) (.s 13) (.c (.bool false)))])
 (.cond (.s 14)
 (.seq (.reg [] [sa 4 (.mv (.c (.int .i64 4611686018427387904)))])
 .ret)
 .skip))
 (.seq (.reg [0,1] [sq 15 (.mv (.s 0)),
 sq 16 (.mv (.s 1)),
 sq 17 (.bin .mul .num (.s 15) (.s 16)),
 sa 4 (.mv (.s 17))])
 .ret)))) }
theorem tr77 : trF Tryz.prog h77 Tryz.f77 = some i77:=by kernel_rfl
def h78 : List (List Nat):=[[0,1],[1,2],[1,2,5],[1,2,5,6],[1,2,5,6],[1,2,5,6],[1,2,5,6],[1,2,5,6],[5]]
def i78d0 : List IStep:=[sq 17 (.mv (.s 5)),
 sq 18 (.mv (.s 6)),
 sq 19 (.mv (.s 5)),
 sq 20 (.mv (.s 6)),
 ⟨(some 21),.idxA 1 (.s 19) (.s 20),none,[2,3],false⟩,
 ⟨(some 22),.load false 1 (.s 21),none,[4],false⟩,
 sq 23 (.load true 3 (.s 2)),
 sq 24 (.mv (.s 1)),
 sq 25 (.mv (.s 6)),
 ⟨(some 26),.idxA 1 (.s 24) (.s 25),none,[7,8],false⟩,
 ⟨(some 27),.load false 1 (.s 26),none,[9],false⟩,
 ⟨(some 28),.call (.c (.fn (.func 50) [] [])) [(.s 23),(.s 27)],none,[6,10],false⟩,
 ⟨(some 29),.call (.c (.fn (.func 98) [] [])) [(.s 22),(.s 28)],none,[5,11],false⟩,
 ⟨(some 30),.idxA 1 (.s 17) (.s 18),none,[0,1,2,3,4,5,6,7,8,9,10,11,12],false⟩,
 ⟨none,.store 1 (.s 30) (.s 29),none,[13,12,0,1,2,3,4,5,6,7,8,9,10,11],false⟩]
theorem i78d0t : tame i78d0 = true:=by kernel_rfl
def i78d1 : List IStep:=[sq 31 (.mv (.s 5)),
 sq 32 (.mv (.s 6)),
 ⟨(some 33),.bin .add .num (.s 32) (.c (.int .i64 1)),none,[1],false⟩,
 sq 34 (.mv (.s 5)),
 sq 35 (.mv (.s 6)),
 ⟨(some 36),.bin .add .num (.s 35) (.c (.int .i64 1)),none,[4],false⟩,
 ⟨(some 37),.idxA 1 (.s 34) (.s 36),none,[3,5],false⟩,
 ⟨(some 38),.load false 1 (.s 37),none,[6],false⟩,
 sq 39 (.load true 3 (.s 2)),
 sq 40 (.mv (.s 1)),
 sq 41 (.mv (.s 6)),
 ⟨(some 42),.idxA 1 (.s 40) (.s 41),none,[9,10],false⟩,
 ⟨(some 43),.load false 1 (.s 42),none,[11],false⟩,
 ⟨(some 44),.call (.c (.fn (.func 48) [] [])) [(.s 39),(.s 43)],none,[8,12],false⟩,
 ⟨(some 45),.call (.c (.fn (.func 98) [] [])) [(.s 38),(.s 44)],none,[7,13],false⟩,
 ⟨(some 46),.idxA 1 (.s 31) (.s 33),none,[0,2,1,3,4,5,6,7,8,9,10,11,12,13,14],false⟩,
 ⟨none,.store 1 (.s 46) (.s 45),none,[15,14,0,1,2,3,4,5,6,7,8,9,10,11,12,13],false⟩]
theorem i78d1t : tame i78d1 = true:=by kernel_rfl
def i78b0 : ICode :=
 (.seq (.seq (.reg [1,2,5,6] [sq 11 (.mv (.s 6)),
 sq 12 (.mv (.s 1)),
 sq 13 (.len false (.s 12)),
 sq 14 (.bin .lss .num (.s 11) (.s 13))])
 (.cond (.s 14)
 .skip
 (.exit 0)))
 (.seq (.block 1
 (.seq (.draw [1,2,5,6] i78d0)
 (.draw [1,2,5,6] i78d1)))
 (.reg [1,2,5,6] [sq 15 (.mv (.s 6)),
 sq 16 (.bin .add .num (.s 15) (.c (.int .i64 1))),
 sa 6 (.mv (.s 16))])))
def i78 : IFn:={ nparams:=2,ntmps:=49,results:=[.tmp 4],body :=
 (.seq (.reg [0,1] [sq 2 (.box 3 (.s 0)),
 sa 4 (.mv (.c (.sl .nil [])))])
 (.seq (.reg [1,2] [sq 7 (.mv (.s 1)),
 sq 8 (.len false (.s 7)),
 sq 9 (.bin .add .num (.s 8) (.c (.int .i64 1))),
 sq 10 (.mksl 1 24 (.sl .nil []) (.s 9) (.s 9)),
 sa 5 (.mv (.s 10))])
 (.seq (.seq (.reg [1,2,5] [sa 6 (.mv (.c (.int .i64 0)))])
 (.block 0
 (.loop [1,2,5,6] i78b0)))
 (.seq (.reg [5] [sq 47 (.mv (.s 5)),
 sq 48 (.call (.c (.fn (.func 70) [] [])) [(.s 47)]),
 sa 4 (.mv (.s 48))])
 .ret)))) }
theorem tr78 : trF Tryz.prog h78 Tryz.f78 = some i78:=by kernel_rfl
def h79 : List (List Nat):=[[0,1],[0,1,4],[0,1,4,5],[0,1,4,5],[0,1,4,5],[0,1,4,5]]
def i79b0 : ICode :=
 (.seq (.seq (.reg [0,1,4,5] [sq 8 (.mv (.s 5)),
 sq 9 (.bin .gtr .num (.s 8) (.c (.int .i64 0))),
 sq 10 (.mv (.s 9)),
 ⟨(some 11),.mv (.s 1),(some (10,true)),[],false⟩,
 ⟨(some 12),.mv (.s 5),(some (10,true)),[],false⟩,
 ⟨(some 13),.bin .sub .num (.s 12) (.c (.int .i64 1)),(some (10,true)),[],false⟩,
 ⟨(some 14),.idxA 1 (.s 11) (.s 13),(some (10,true)),[],false⟩,
 ⟨(some 15),.load false 1 (.s 14),(some (10,true)),[],false⟩,
 ⟨(some 16),.bin .eql .num (.s 15) (.c (.int .i64 0)),(some (10,true)),[],false⟩,
 sq 17 (.pick (.s 10) (.s 16) (.c (.bool false)))])
 (.cond (.s 17)
 .skip
 (.exit 0)))
 (.block 1
 (.reg [0,1,4,5] [sq 18 (.mv (.s 5)),
 sq 19 (.bin .sub .num (.s 18) (.c (.int .i64 1))),
 sa 5 (.mv (.s 19))])))
def i79 : IFn:={ nparams:=2,ntmps:=30,results:=[.cell 4 true 2],body :=
 (.seq (.reg [0,1] [sq 4 (.alloc 2 (.agg [(.bool false),(.sl .nil [])]))])
 (.seq (.reg [0,1,4] [sq 6 (.mv (.s 1)),
 sq 7 (.len false (.s 6)),
 sa 5 (.mv (.s 7))])
 (.seq (.block 0
 (.loop [0,1,4,5] i79b0))
 (.seq (.reg [0,1,4,5] [sq 20 (.mv (.s 0)),
 sq 21 (.mv (.s 20)),
 ⟨(some 22),.mv (.s 5),(some (21,true)),[],false⟩,
 ⟨(some 23),.bin .gtr .num (.s 22) (.c (.int .i64 0)),(some (21,true)),[],false⟩,
 sq 24 (.pick (.s 21) (.s 23) (.c (.bool false))),
 sq 25 (.mv (.s 1)),
 sq 26 (.mv (.s 5)),
 sq 27 (.mv (.s 5)),
 sq 28 (.slice 1 (.s 25) none (some (.s 26)) (some (.s 27))),
 sq 29 (.build [(.bool false),(.sl .nil [])] [(0,1,(.s 24)),(1,1,(.s 28))]),
 se (.store 2 (.s 4) (.s 29))])
 .ret)))) }
theorem tr79 : trF Tryz.prog h79 Tryz.f79 = some i79:=by kernel_rfl
def h80 : List (List Nat):=[[0],[0],[0,3],[0,3],[0,3],[0,3]]
def i80b0 : ICode :=
 (.seq (.seq (.reg [0,3] [sq 6 (.mv (.s 3)),
 sq 7 (.bin .gtr .num (.s 6) (.c (.int .i64 0))),
 sq 8 (.mv (.s 7)),
 ⟨(some 9),.mv (.s 0),(some (8,true)),[],false⟩,
 ⟨(some 10),.mv (.s 3),(some (8,true)),[],false⟩,
 ⟨(some 11),.bin .sub .num (.s 10) (.c (.int .i64 1)),(some (8,true)),[],false⟩,
 ⟨(some 12),.idxA 2 (.s 9) (.s 11),(some (8,true)),[],false⟩,
 ⟨(some 13),.load true 2 (.s 12),(some (8,true)),[],false⟩,
 ⟨(some 14),.call (.c (.fn (.func 46) [] [])) [(.s 13)],(some (8,true)),[],false⟩,
 ⟨(some 15),.bin .eql .num (.s 14) (.c (.int .i64 0)),(some (8,true)),[],false⟩,
 sq 16 (.pick (.s 8) (.s 15) (.c (.bool false)))])
 (.cond (.s 16)
 .skip
 (.exit 0)))
 (.block 1
 (.reg [0,3] [sq 17 (.mv (.s 3)),
 sq 18 (.bin .sub .num (.s 17) (.c (.int .i64 1))),
 sa 3 (.mv (.s 18))])))
def i80 : IFn:={ nparams:=1,ntmps:=23,results:=[.tmp 2],body :=
 (.seq (.reg [0] [sa 2 (.mv (.c (.sl .nil [])))])
 (.seq (.reg [0] [sq 4 (.mv (.s 0)),
 sq 5 (.len false (.s 4)),
 sa 3 (.mv (.s 5))])
 (.seq (.block 0
 (.loop [0,3] i80b0))
 (.seq (.reg [0,3] [sq 19 (.mv (.s 0)),
 sq 20 (.mv (.s 3)),
 sq 21 (.mv (.s 3)),
 sq 22 (.slice 2 (.s 19) none (some (.s 20)) (some (.s 21))),
 sa 2 (.mv (.s 22))])
 .ret)))) }
theorem tr80 : trF Tryz.prog h80 Tryz.f80 = some i80:=by kernel_rfl
def h81 : List (List Nat):=[[0],[1,2],[1,2,3],[1,2],[1,2,3]]
def i81d0 : List IStep:=[sq 9 (.fldA 0 false 1 (.s 1)),
 ⟨(some 10),.load false 1 (.s 9),none,[0],false⟩,
 sq 11 (.fldA 1 false 1 (.s 1)),
 ⟨(some 12),.load false 1 (.s 11),none,[2],false⟩,
 sq 13 (.mv (.s 3)),
 ⟨(some 14),.slice 1 (.s 12) none (some (.s 13)) none,none,[3,4],false⟩,
 ⟨(some 15),.app 1 4 (.c (.sl .nil [])) (.s 14),none,[5],false⟩,
 ⟨(some 16),.build [(.bool false),(.sl .nil [])] [(0,1,(.s 10)),(1,1,(.s 15))],none,[1,6],false⟩,
 ⟨none,.store 2 (.s 2) (.s 16),none,[7,6,0,1,2,3,4,5],false⟩]
theorem i81d0t : tame i81d0 = false:=by kernel_rfl
def i81 : IFn:={ nparams:=1,ntmps:=17,results:=[.cell 2 true 2],body :=
 (.seq (.reg [0] [sq 1 (.box 2 (.s 0)),
 sq 2 (.alloc 2 (.agg [(.bool false),(.sl .nil [])]))])
 (.seq (.reg [1,2] [sq 4 (.fldA 1 false 1 (.s 1)),
 sq 5 (.load false 1 (.s 4)),
 sq 6 (.len false (.s 5)),
 sa 3 (.mv (.s 6))])
 (.seq (.seq (.reg [1,2,3] [sq 7 (.mv (.s 3)),
 sq 8 (.bin .gtr .num (.s 7) (.c (.int .i64 24)))])
 (.cond (.s 8)
 (.reg [1,2] [sa 3 (.mv (.c (.int .i64 24)))])
 .skip))
 (.seq (.draw [1,2,3] i81d0)
 .ret)))) }
theorem tr81 : trF Tryz.prog h81 Tryz.f81 = some i81:=by kernel_rfl
def h82 : List (List Nat):=[[0,1],[0,1],[0,1,5],[0,1,5],[1,5],[0,1,5],[0,5],[0,1,5],[5],[0,1,5]]
def i82d0 : List IStep:=[sq 41 (.mv (.s 0)),
 sq 42 (.mv (.s 1)),
 ⟨(some 43),.call (.c (.fn (.func 128) [] [])) [(.s 41),(.s 42)],none,[0,1],false⟩,
 sq 44 (.load true 2 (.s 5)),
 ⟨(some 45),.call (.c (.fn (.func 86) [] [])) [(.s 43),(.s 44)],none,[2,3],false⟩,
 ⟨(some 4),.mv (.s 45),none,[4,0,1,2,3],true⟩]
theorem i82d0t : tame i82d0 = true:=by kernel_rfl
def i82 : IFn:={ nparams:=2,ntmps:=46,results:=[.tmp 4],body :=
 (.seq (.reg [0,1] [sa 4 (.mv (.c (.sl .nil [])))])
 (.seq (.reg [0,1] [sq 6 (.mv (.s 0)),
 sq 7 (.call (.c (.fn (.func 126) [] [])) [(.s 6)]),
 sq 8 (.mv (.s 1)),
 sq 9 (.call (.c (.fn (.func 126) [] [])) [(.s 8)]),
 sq 10 (.call (.c (.fn (.func 125) [] [])) [(.s 7),(.s 9)]),
 sq 5 (.alloc 2 (.agg [(.bool false),(.sl .nil [])])),
 se (.store 2 (.s 5) (.s 10))])
 (.seq (.reg [0,1,5] [sq 11 (.mv (.s 0)),
 sq 12 (.call (.c (.fn (.func 127) [] [])) [(.s 11)]),
 sq 13 (.mv (.s 1)),
 sq 14 (.call (.c (.fn (.func 127) [] [])) [(.s 13)]),
 sa 0 (.mv (.s 12)),
 sa 1 (.mv (.s 14))])
 (.seq (.block 0
 (.seq (.reg [0,1,5] [sq 16 (.mv (.s 0)),
 sq 17 (.len false (.s 16)),
 sq 18 (.bin .eql .num (.s 17) (.c (.int .i64 0))),
 sa 15 (.mv (.s 18))])
 (.cond (.s 15)
 (.seq (.reg [1,5] [sq 19 (.mv (.s 1)),
 sq 20 (.load true 2 (.s 5)),
 sq 21 (.call (.c (.fn (.func 86) [] [])) [(.s 19),(.s 20)]),
 sa 4 (.mv (.s 21))])
 .ret)
 (.seq (.reg [0,1,5] [sq 23 (.mv (.s 1)),
 sq 24 (.len false (.s 23)),
 sq 25 (.bin .eql .num (.s 24) (.c (.int .i64 0))),
 sa 22 (.mv (.s 25))])
 (.cond (.s 22)
 (.seq (.reg [0,5] [sq 26 (.mv (.s 0)),
 sq 27 (.load true 2 (.s 5)),
 sq 28 (.call (.c (.fn (.func 86) [] [])) [(.s 26),(.s 27)]),
 sa 4 (.mv (.s 28))])
 .ret)
 (.seq (.reg [0,1,5] [sq 30 (.mv (.s 0)),
 sq 31 (.len false (.s 30)),
 sq 32 (.bin .eql .num (.s 31) (.c (.int .i64 1))),
 sq 33 (.mv (.s 32)),
 ⟨(some 34),.mv (.s 1),(some (33,false)),[],false⟩,
 ⟨(some 35),.len false (.s 34),(some (33,false)),[],false⟩,
 ⟨(some 36),.bin .eql .num (.s 35) (.c (.int .i64 1)),(some (33,false)),[],false⟩,
 sq 37 (.pick (.s 33) (.c (.bool true)) (.s 36)),
 sa 29 (.mv (.s 37))])
 (.cond (.s 29)
 (.seq (.reg [5] [sq 38 (.load true 2 (.s 5)),
 sq 39 (.bsl 2 (.agg [(.bool false),(.sl .nil [])]) 1 [(0,(.s 38))]),
 sq 40 (.call (.c (.fn (.func 93) [] [])) [(.s 39)]),
 sa 4 (.mv (.s 40))])
 .ret)
 .skip)))))))
 (.seq (.draw [0,1,5] i82d0)
 .ret))))) }
theorem tr82 : trF Tryz.prog h82 Tryz.f82 = some i82:=by kernel_rfl
def h83 : List (List Nat):=[[0],[0],[0,3],[0,3],[0,3],[0,3],[],[0,3]]
def i83b0 : ICode :=
 (.seq (.seq (.reg [0,3] [sq 6 (.mv (.s 3)),
 sq 7 (.bin .gtr .num (.s 6) (.c (.int .i64 0))),
 sq 8 (.mv (.s 7)),
 ⟨(some 9),.mv (.s 0),(some (8,true)),[],false⟩,
 ⟨(some 10),.mv (.s 3),(some (8,true)),[],false⟩,
 ⟨(some 11),.bin .sub .num (.s 10) (.c (.int .i64 1)),(some (8,true)),[],false⟩,
 ⟨(some 12),.idxA 1 (.s 9) (.s 11),(some (8,true)),[],false⟩,
 ⟨(some 13),.load false 1 (.s 12),(some (8,true)),[],false⟩,
 ⟨(some 14),.call (.c (.fn (.func 115) [] [])) [(.s 13)],(some (8,true)),[],false⟩,
 ⟨(some 15),.bin .lss .num (.s 14) (.c (.int .i64 0)),(some (8,true)),[],false⟩,
 sq 16 (.pick (.s 8) (.s 15) (.c (.bool false)))])
 (.cond (.s 16)
 .skip
 (.exit 0)))
 (.block 1
 (.reg [0,3] [sq 17 (.mv (.s 3)),
 sq 18 (.bin .sub .num (.s 17) (.c (.int .i64 1))),
 sa 3 (.mv (.s 18))])))
def i83 : IFn:={ nparams:=1,ntmps:=24,results:=[.tmp 2],body :=
 (.seq (.reg [0] [sa 2 (.mv (.c (.sl .nil [])))])
 (.seq (.reg [0] [sq 4 (.mv (.s 0)),
 sq 5 (.len false (.s 4)),
 sa 3 (.mv (.s 5))])
 (.seq (.block 0
 (.loop [0,3] i83b0))
 (.seq (.seq (.reg [0,3] [sq 19 (.mv (.s 3)),
 sq 20 (.bin .eql .num (.s 19) (.c (.int .i64 0)))])
 (.cond (.s 20)
 (.seq (.reg [] [sa 2 (.mv (.c (.sl .nil [])))])
 .ret)
 .skip))
 (.seq (.reg [0,3] [sq 21 (.mv (.s 0)),
 sq 22 (.mv (.s 3)),
 sq 23 (.slice 1 (.s 21) none (some (.s 22)) none),
 sa 2 (.mv (.s 23))])
 .ret))))) }
theorem tr83 : trF Tryz.prog h83 Tryz.f83 = some i83:=by kernel_rfl
def h84 : List (List Nat):=[[0],[1],[],[1],[],[]]
def i84 : IFn:={ nparams:=1,ntmps:=11,results:=[.tmp 2],body :=
 (.seq (.reg [0] [sq 1 (.box 2 (.s 0)),
 sa 2 (.mv (.c (.int .i64 0)))])
 (.seq (.block 0
 (.seq (.reg [1] [sq 4 (.load true 2 (.s 1)),
 sq 5 (.call (.c (.fn (.func 129) [] [])) [(.s 4)]),
 sq 6 (.len false (.s 5)),
 sq 7 (.bin .eql .num (.s 6) (.c (.int .i64 0))),
 sa 3 (.mv (.s 7))])
 (.cond (.s 3)
 (.seq (.reg [] [sa 2 (.mv (.c (.int .i64 0)))])
 .ret)
 (.seq (.reg [1] [sq 9 (.fldA 0 false 1 (.s 1)),
 sq 10 (.load false 1 (.s 9)),
 sa 8 (.mv (.s 10))])
 (.cond (.s 8)
 (.seq (.reg [] [sa 2 (.mv (.c (.int .i64 (-1))))])
 .ret)
 .skip)))))
 (.seq (.reg [] [sa 2 (.mv (.c (.int .i64 1)))])
 .ret))) }
theorem tr84 : trF Tryz.prog h84 Tryz.f84 = some i84:=by kernel_rfl
def h85 : List (List Nat):=[[0],[0,2],[0,2],[0,2],[2]]
def i85 : IFn:={ nparams:=1,ntmps:=16,results:=[.cell 2 true 2],body :=
 (.seq (.reg [0] [sq 2 (.alloc 2 (.agg [(.bool false),(.sl .nil [])]))])
 (.seq (.seq (.reg [0,2] [sq 3 (.mv (.s 0)),
 sq 4 (.call (.c (.fn (.func 130) [] [])) [(.s 3)]),
 sa 0 (.mv (.s 4))])
 (.seq (.reg [0,2] [sq 5 (.mv (.s 0)),
 sq 6 (.len false (.s 5)),
 sq 7 (.bin .gtr .num (.s 6) (.c (.int .i64 0)))])
 (.cond (.s 7)
 (.seq (.reg [0,2] [sq 8 (.mv (.s 0)),
 sq 9 (.mv (.s 0)),
 sq 10 (.len false (.s 9)),
 sq 11 (.bin .sub .num (.s 10) (.c (.int .i64 1))),
 sq 12 (.idxA 2 (.s 8) (.s 11)),
 sq 13 (.load true 2 (.s 12)),
 sq 14 (.call (.c (.fn (.func 131) [] [])) [(.s 13)]),
 se (.store 2 (.s 2) (.s 14))])
 .ret)
 .skip)))
 (.seq (.reg [2] [sq 15 (.build [(.bool false),(.sl .nil [])] []),
 se (.store 2 (.s 2) (.s 15))])
 .ret))) }
theorem tr85 : trF Tryz.prog h85 Tryz.f85 = some i85:=by kernel_rfl
def h86 : List (List Nat):=[[0,1],[0,3]]
def i86 : IFn:={ nparams:=2,ntmps:=10,results:=[.tmp 4],body :=
 (.seq (.reg [0,1] [sq 3 (.box 2 (.s 1)),
 sa 4 (.mv (.c (.sl .nil [])))])
 (.seq (.reg [0,3] [sq 5 (.mv (.s 0)),
 sq 6 (.load true 2 (.s 3)),
 sq 7 (.build [(.bool false),(.sl .nil [])] [(0,2,(.s 6))]),
 sq 8 (.mkfn (.func 133) [(.s 7)] []),
 sq 9 (.call (.c (.fn (.func 132) [] [])) [(.s 5),(.s 8)]),
 sa 4 (.mv (.s 9))])
 .ret)) }
theorem tr86 : trF Tryz.prog h86 Tryz.f86 = some i86:=by kernel_rfl
def h87 : List (List Nat):=[[0],[0,2],[0,2,3],[0,2,3],[0,2,3]]
def i87 : IFn:={ nparams:=1,ntmps:=19,results:=[.cell 2 true 2],body :=
 (.seq (.reg [0] [sq 2 (.alloc 2 (.agg [(.bool false),(.sl .nil [])]))])
 (.seq (.reg [0,2] [sq 4 (.mv (.s 0)),
 sq 5 (.conv .u64 (.s 4)),
 sa 3 (.mv (.s 5))])
 (.seq (.seq (.reg [0,2,3] [sq 6 (.mv (.s 0)),
 sq 7 (.bin .lss .num (.s 6) (.c (.int .i64 0)))])
 (.cond (.s 7)
 (.reg [0,2,3] [sq 8 (.mv (.s 3)),
 sq 9 (.un .neg (.s 8)),
 sa 3 (.mv (.s 9))])
 .skip))
 (.seq (.reg [0,2,3] [sq 10 (.mv (.s 0)),
 sq 11 (.bin .lss .num (.s 10) (.c (.int .i64 0))),
 sq 12 (.mv (.s 3)),
 sq 13 (.conv .u32 (.s 12)),
 sq 14 (.mv (.s 3)),
 sq 15 (.bin .shr .num (.s 14) (.c (.int .u64 32))),
 sq 16 (.conv .u32 (.s 15)),
 sq 17 (.bsl 1 (.int .u32 0) 2 [(0,(.s 13)),(1,(.s 16))]),
 sq 18 (.call (.c (.fn (.func 134) [] [])) [(.s 11),(.s 17)]),
 se (.store 2 (.s 2) (.s 18))])
 .ret)))) }
theorem tr87 : trF Tryz.prog h87 Tryz.f87 = some i87:=by kernel_rfl
def h88 : List (List Nat):=[[0,1],[1,2],[5]]
def i88 : IFn:={ nparams:=2,ntmps:=15,results:=[.tmp 4],body :=
 (.seq (.reg [0,1] [sq 2 (.box 1 (.s 0)),
 sa 4 (.mv (.c (.sl .nil [])))])
 (.seq (.reg [1,2] [sq 8 (.mv (.s 1)),
 sq 9 (.fldA 0 false 1 (.s 2)),
 sq 10 (.load false 1 (.s 9)),
 sq 11 (.call (.c (.fn (.func 135) [] [])) [(.s 8),(.s 10)]),
 sq 7 (.mv (.s 11)),
 sq 12 (.extr (.s 7) 0),
 sq 13 (.extr (.s 7) 1),
 sa 5 (.mv (.s 12)),
 sa 6 (.mv (.s 13))])
 (.seq (.reg [5] [sq 14 (.mv (.s 5)),
 sa 4 (.mv (.s 14))])
 .ret))) }
theorem tr88 : trF Tryz.prog h88 Tryz.f88 = some i88:=by kernel_rfl
def h89 : List (List Nat):=[[0,1],[0,1],[0,1,5],[5,6,7],[5,6,7],[5,6,7],[5,7,9],[5,6]]
def i89b0 : ICode :=
 (.seq (.seq (.reg [5,6,7] [sq 19 (.mv (.s 7)),
 sq 20 (.len false (.s 19)),
 sq 21 (.bin .gtr .num (.s 20) (.c (.int .i64 0)))])
 (.cond (.s 21)
 .skip
 (.exit 0)))
 (.block 1
 (.seq (.reg [5,6,7] [sq 23 (.mv (.s 6)),
 sq 24 (.mv (.s 7)),
 sq 25 (.call (.c (.fn (.func 139) [] [])) [(.s 23),(.s 24)]),
 sq 22 (.mv (.s 25)),
 sq 26 (.extr (.s 22) 0),
 sq 27 (.extr (.s 22) 1),
 sa 8 (.mv (.s 26)),
 sa 9 (.mv (.s 27))])
 (.reg [5,7,9] [sq 28 (.mv (.s 7)),
 sq 29 (.mv (.s 9)),
 sq 30 (.call (.c (.fn (.func 138) [] [])) [(.s 29)]),
 sa 6 (.mv (.s 28)),
 sa 7 (.mv (.s 30))]))))
def i89 : IFn:={ nparams:=2,ntmps:=34,results:=[.tmp 4],body :=
 (.seq (.reg [0,1] [sa 4 (.mv (.c (.sl .nil [])))])
 (.seq (.reg [0,1] [sq 10 (.mv (.s 0)),
 sq 11 (.call (.c (.fn (.func 137) [] [])) [(.s 10)]),
 sq 12 (.mv (.s 1)),
 sq 13 (.call (.c (.fn (.func 137) [] [])) [(.s 12)]),
 sq 14 (.call (.c (.fn (.func 136) [] [])) [(.s 11),(.s 13)]),
 sq 5 (.alloc 2 (.agg [(.bool false),(.sl .nil [])])),
 se (.store 2 (.s 5) (.s 14))])
 (.seq (.reg [0,1,5] [sq 15 (.mv (.s 0)),
 sq 16 (.call (.c (.fn (.func 138) [] [])) [(.s 15)]),
 sq 17 (.mv (.s 1)),
 sq 18 (.call (.c (.fn (.func 138) [] [])) [(.s 17)]),
 sa 6 (.mv (.s 16)),
 sa 7 (.mv (.s 18))])
 (.seq (.block 0
 (.loop [5,6,7] i89b0))
 (.seq (.reg [5,6] [sq 31 (.mv (.s 6)),
 sq 32 (.load true 2 (.s 5)),
 sq 33 (.call (.c (.fn (.func 140) [] [])) [(.s 31),(.s 32)]),
 sa 4 (.mv (.s 33))])
 .ret))))) }
theorem tr89 : trF Tryz.prog h89 Tryz.f89 = some i89:=by kernel_rfl
def h90 : List (List Nat):=[[0,1],[0,1],[],[0,1],[0,1,6],[1,6,7],[1,6,7],[1,6,7],[1,6,7,8,9],[],[1,6,7,8],[1,6,7,8,10],[1,6,7,10],[1,6,7,10],[6,7]]
def i90b0 : ICode :=
 (.seq (.seq (.reg [1,6,7] [sq 15 (.mv (.s 7)),
 sq 16 (.call (.c (.fn (.func 96) [] [])) [(.s 15)]),
 sq 17 (.mv (.s 1)),
 sq 18 (.call (.c (.fn (.func 96) [] [])) [(.s 17)]),
 sq 19 (.bin .geq .num (.s 16) (.s 18))])
 (.cond (.s 19)
 .skip
 (.exit 0)))
 (.block 1
 (.seq (.reg [1,6,7] [sq 21 (.mv (.s 7)),
 sq 22 (.call (.c (.fn (.func 91) [] [])) [(.s 21)]),
 sq 23 (.mv (.s 1)),
 sq 24 (.call (.c (.fn (.func 91) [] [])) [(.s 23)]),
 sq 25 (.call (.c (.fn (.func 141) [] [])) [(.s 22),(.s 24)]),
 sq 20 (.mv (.s 25)),
 sq 26 (.extr (.s 20) 0),
 sq 27 (.extr (.s 20) 1),
 sq 8 (.alloc 2 (.agg [(.bool false),(.sl .nil [])])),
 sq 9 (.alloc 2 (.agg [(.bool false),(.sl .nil [])])),
 se (.store 2 (.s 8) (.s 26)),
 se (.store 2 (.s 9) (.s 27))])
 (.seq (.seq (.reg [1,6,7,8,9] [sq 28 (.load true 2 (.s 9)),
 sq 29 (.call (.c (.fn (.func 46) [] [])) [(.s 28)]),
 sq 30 (.bin .neq .num (.s 29) (.c (.int .i64 0)))])
 (.cond (.s 30)
 (.seq (.reg [] [sa 4 (.mv (.c (.sl .nil []))),
 sa 5 (.mv (.c (.bool false)))])
 .ret)
 .skip))
 (.seq (.reg [1,6,7,8] [sq 31 (.mv (.s 7)),
 sq 32 (.call (.c (.fn (.func 96) [] [])) [(.s 31)]),
 sq 33 (.mv (.s 1)),
 sq 34 (.call (.c (.fn (.func 96) [] [])) [(.s 33)]),
 sq 35 (.bin .sub .num (.s 32) (.s 34)),
 sq 36 (.bin .add .num (.s 35) (.c (.int .i64 1))),
 sq 37 (.mksl 2 32 (.agg [(.bool false),(.sl .nil [])]) (.s 36) (.s 36)),
 sa 10 (.mv (.s 37))])
 (.seq (.reg [1,6,7,8,10] [sq 38 (.mv (.s 10)),
 sq 39 (.mv (.s 10)),
 sq 40 (.len false (.s 39)),
 sq 41 (.bin .sub .num (.s 40) (.c (.int .i64 1))),
 sq 42 (.load true 2 (.s 8)),
 sq 43 (.idxA 2 (.s 38) (.s 41)),
 se (.store 2 (.s 43) (.s 42))])
 (.seq (.reg [1,6,7,10] [sq 44 (.mv (.s 6)),
 sq 45 (.mv (.s 10)),
 sq 46 (.call (.c (.fn (.func 98) [] [])) [(.s 44),(.s 45)]),
 sa 6 (.mv (.s 46))])
 (.reg [1,6,7,10] [sq 47 (.mv (.s 7)),
 sq 48 (.mv (.s 10)),
 sq 49 (.mv (.s 1)),
 sq 50 (.call (.c (.fn (.func 42) [] [])) [(.s 48),(.s 49)]),
 sq 51 (.call (.c (.fn (.func 142) [] [])) [(.s 47),(.s 50)]),
 sa 7 (.mv (.s 51))]))))))))
def i90 : IFn:={ nparams:=2,ntmps:=56,results:=[.tmp 4,.tmp 5],body :=
 (.seq (.reg [0,1] [sa 4 (.mv (.c (.sl .nil []))),
 sa 5 (.mv (.c (.bool false)))])
 (.seq (.seq (.reg [0,1] [sq 11 (.mv (.s 1)),
 sq 12 (.len false (.s 11)),
 sq 13 (.bin .eql .num (.s 12) (.c (.int .i64 0)))])
 (.cond (.s 13)
 (.seq (.reg [] [sa 4 (.mv (.c (.sl .nil []))),
 sa 5 (.mv (.c (.bool false)))])
 .ret)
 .skip))
 (.seq (.reg [0,1] [sa 6 (.mv (.c (.sl .nil [])))])
 (.seq (.reg [0,1,6] [sq 14 (.mv (.s 0)),
 sa 7 (.mv (.s 14))])
 (.seq (.block 0
 (.loop [1,6,7] i90b0))
 (.seq (.reg [6,7] [sq 52 (.mv (.s 6)),
 sq 53 (.mv (.s 7)),
 sq 54 (.len false (.s 53)),
 sq 55 (.bin .eql .num (.s 54) (.c (.int .i64 0))),
 sa 4 (.mv (.s 52)),
 sa 5 (.mv (.s 55))])
 .ret)))))) }
theorem tr90 : trF Tryz.prog h90 Tryz.f90 = some i90:=by kernel_rfl
def h91 : List (List Nat):=[[0],[0,2]]
def i91 : IFn:={ nparams:=1,ntmps:=8,results:=[.cell 2 true 2],body :=
 (.seq (.reg [0] [sq 2 (.alloc 2 (.agg [(.bool false),(.sl .nil [])]))])
 (.seq (.reg [0,2] [sq 3 (.mv (.s 0)),
 sq 4 (.mv (.s 0)),
 sq 5 (.len false (.s 4)),
 sq 6 (.bin .sub .num (.s 5) (.c (.int .i64 1))),
 sq 7 (.call (.c (.fn (.func 143) [] [])) [(.s 3),(.s 6)]),
 se (.store 2 (.s 2) (.s 7))])
 .ret)) }
theorem tr91 : trF Tryz.prog h91 Tryz.f91 = some i91:=by kernel_rfl
def h92 : List (List Nat):=[[0,1,2],[0,1,5],[1,7,8,9],[7,8,10]]
def i92d0 : List IStep:=[sq 11 (.mv (.s 0)),
 ⟨(some 12),.call (.c (.fn (.func 118) [] [])) [(.s 11)],none,[0],false⟩,
 sq 13 (.mv (.s 1)),
 ⟨(some 14),.call (.c (.fn (.func 115) [] [])) [(.s 13)],none,[2,1],false⟩,
 sq 15 (.load true 2 (.s 5)),
 ⟨(some 16),.call (.c (.fn (.func 119) [] [])) [(.s 15)],none,[4,3],false⟩,
 sq 7 (.alloc 3 (.agg [(.int .i64 0),(.int .i64 0),(.int .i64 0)])),
 ⟨none,.store 3 (.s 7) (.s 12),none,[6,1,5,0],false⟩,
 ⟨(some 8),.mv (.s 14),none,[3,7,0,1,2,6],true⟩,
 ⟨(some 9),.mv (.s 16),none,[5,8,0,1,2,3,4,6,7],true⟩]
theorem i92d0t : tame i92d0 = false:=by kernel_rfl
def i92d1 : List IStep:=[sq 17 (.fldA 2 false 1 (.s 7)),
 ⟨(some 18),.load false 1 (.s 17),none,[0],false⟩,
 sq 19 (.mv (.s 1)),
 ⟨(some 20),.call (.c (.fn (.func 116) [] [])) [(.s 19)],none,[2],false⟩,
 sq 21 (.fldA 0 false 1 (.s 7)),
 ⟨(some 22),.load false 1 (.s 21),none,[4],false⟩,
 ⟨(some 23),.bin .add .num (.s 22) (.c (.int .i64 1)),none,[5],false⟩,
 sq 24 (.mv (.s 8)),
 ⟨(some 25),.bin .add .num (.s 24) (.c (.int .i64 2)),none,[7],false⟩,
 sq 26 (.mv (.s 9)),
 ⟨(some 27),.bsl 1 (.int .i64 0) 2 [(0,(.s 26)),(1,(.c (.int .i64 8)))],none,[9],false⟩,
 ⟨(some 28),.call (.c (.fn (.func 120) [] [])) [(.s 27)],none,[10,3],false⟩,
 ⟨(some 29),.bsl 1 (.int .i64 0) 3 [(0,(.s 23)),(1,(.s 25)),(2,(.s 28))],none,[6,8,11],false⟩,
 ⟨(some 30),.call (.c (.fn (.func 121) [] [])) [(.s 29)],none,[12,11],false⟩,
 ⟨(some 31),.bsl 1 (.int .i64 0) 3 [(0,(.s 18)),(1,(.s 20)),(2,(.s 30))],none,[1,3,13],false⟩,
 ⟨(some 32),.call (.c (.fn (.func 120) [] [])) [(.s 31)],none,[14,13],false⟩,
 ⟨(some 10),.mv (.s 32),none,[15,0,1,2,3,4,5,6,7,8,9,10,11,12,13,14],true⟩]
theorem i92d1t : tame i92d1 = true:=by kernel_rfl
def i92d2 : List IStep:=[sq 33 (.fldA 0 false 1 (.s 7)),
 ⟨(some 34),.load false 1 (.s 33),none,[0],false⟩,
 ⟨(some 35),.bin .add .num (.s 34) (.c (.int .i64 1)),none,[1],false⟩,
 sq 36 (.fldA 1 false 1 (.s 7)),
 ⟨(some 37),.load false 1 (.s 36),none,[3],false⟩,
 sq 38 (.mv (.s 8)),
 ⟨(some 39),.bin .add .num (.s 38) (.c (.int .i64 3)),none,[5],false⟩,
 ⟨(some 40),.bsl 1 (.int .i64 0) 2 [(0,(.s 37)),(1,(.s 39))],none,[4,6],false⟩,
 ⟨(some 41),.call (.c (.fn (.func 120) [] [])) [(.s 40)],none,[7],false⟩,
 sq 42 (.mv (.s 10)),
 ⟨(some 43),.bsl 1 (.int .i64 0) 3 [(0,(.s 35)),(1,(.s 41)),(2,(.s 42))],none,[2,8,9],false⟩,
 ⟨(some 44),.call (.c (.fn (.func 122) [] [])) [(.s 43)],none,[10,8],false⟩,
 ⟨(some 6),.mv (.s 44),none,[11,0,1,2,3,4,5,6,7,8,9,10],true⟩]
theorem i92d2t : tame i92d2 = true:=by kernel_rfl
def i92 : IFn:={ nparams:=3,ntmps:=45,results:=[.tmp 6],body :=
 (.seq (.reg [0,1,2] [sq 5 (.box 2 (.s 2)),
 sa 6 (.mv (.c (.int .i64 0)))])
 (.seq (.draw [0,1,5] i92d0)
 (.seq (.draw [1,7,8,9] i92d1)
 (.seq (.draw [7,8,10] i92d2)
 .ret)))) }
theorem tr92 : trF Tryz.prog h92 Tryz.f92 = some i92:=by kernel_rfl
def h93 : List (List Nat):=[[0],[0]]
def i93 : IFn:={ nparams:=1,ntmps:=5,results:=[.tmp 2],body :=
 (.seq (.reg [0] [sa 2 (.mv (.c (.sl .nil [])))])
 (.seq (.reg [0] [sq 3 (.mv (.s 0)),
 sq 4 (.call (.c (.fn (.func 132) [] [])) [(.s 3),(.c (.fn (.func 131) [] []))]),
 sa 2 (.mv (.s 4))])
 .ret)) }
theorem tr93 : trF Tryz.prog h93 Tryz.f93 = some i93:=by kernel_rfl
def h94 : List (List Nat):=[[0,1],[0,1]]
def i94 : IFn:={ nparams:=2,ntmps:=8,results:=[.tmp 4],body :=
 (.seq (.reg [0,1] [sa 4 (.mv (.c (.sl .nil [])))])
 (.seq (.reg [0,1] [sq 5 (.mv (.s 0)),
 sq 6 (.mv (.s 1)),
 sq 7 (.call (.c (.fn (.func 144) [] [])) [(.s 5),(.s 6),(.c (.fn (.func 103) [] []))]),
 sa 4 (.mv (.s 7))])
 .ret)) }
theorem tr94 : trF Tryz.prog h94 Tryz.f94 = some i94:=by kernel_rfl
def h95 : List (List Nat):=[[0,1],[0,1],[0,1],[],[0,1],[0,1,5],[1,5,29,30,31],[1,5,29,30,31],[1,5,29,30,31],[1,5,6,7,29,30,31],[1,5,6,7,29,30,31],[1,5,6,7,29,30,31,39,40,41],[1,5,6,7,29,30,31,39,40,41],[1,5,6,7,29,30,31,39,40,41],[1,5,6,7,8,9,29,30,31,39,40,41],[1,5,6,7,29,30,31,39,40,41],[1,5,29,30,31],[5]]
def i95d0 : List IStep:=[sq 46 (.mv (.s 5)),
 sq 47 (.mv (.s 6)),
 sq 48 (.mv (.s 8)),
 ⟨(some 49),.bin .add .num (.s 47) (.s 48),none,[1,2],false⟩,
 sq 50 (.mv (.s 5)),
 sq 51 (.mv (.s 6)),
 sq 52 (.mv (.s 8)),
 ⟨(some 53),.bin .add .num (.s 51) (.s 52),none,[5,6],false⟩,
 ⟨(some 54),.idxA 2 (.s 50) (.s 53),none,[4,7],false⟩,
 ⟨(some 55),.load true 2 (.s 54),none,[8],false⟩,
 sq 56 (.load true 2 (.s 7)),
 sq 57 (.load true 2 (.s 9)),
 ⟨(some 58),.call (.c (.fn (.func 145) [] [])) [(.s 56),(.s 57)],none,[10,11],false⟩,
 ⟨(some 59),.call (.c (.fn (.func 103) [] [])) [(.s 55),(.s 58)],none,[9,12],false⟩,
 ⟨(some 60),.idxA 2 (.s 46) (.s 49),none,[0,3,1,2,4,5,6,7,8,9,10,11,12,13],false⟩,
 ⟨none,.store 2 (.s 60) (.s 59),none,[14,13,0,1,2,3,4,5,6,7,8,9,10,11,12],false⟩]
theorem i95d0t : tame i95d0 = true:=by kernel_rfl
def i95b0 : ICode :=
 (.seq (.reg [1,5,6,7,29,30,31,39,40,41] [sq 42 (.bin .lss .num (.s 41) (.s 40))])
 (.seq (.cond (.s 42)
 .skip
 (.exit 2))
 (.seq (.block 3
 (.seq (.reg [1,5,6,7,29,30,31,39,40,41] [sq 43 (.mv (.s 41)),
 sq 44 (.idxA 2 (.s 39) (.s 41)),
 sq 45 (.load true 2 (.s 44)),
 sq 9 (.alloc 2 (.agg [(.bool false),(.sl .nil [])])),
 sa 8 (.mv (.s 43)),
 se (.store 2 (.s 9) (.s 45))])
 (.draw [1,5,6,7,8,9,29,30,31,39,40,41] i95d0)))
 (.reg [1,5,6,7,29,30,31,39,40,41] [sq 61 (.bin .add .num (.s 41) (.c (.int .i64 1))),
 sq 41 (.mv (.s 61))]))))
def i95b1 : ICode :=
 (.seq (.reg [1,5,29,30,31] [sq 32 (.bin .lss .num (.s 31) (.s 30))])
 (.seq (.cond (.s 32)
 .skip
 (.exit 0))
 (.seq (.block 1
 (.seq (.reg [1,5,29,30,31] [sq 33 (.mv (.s 31)),
 sq 34 (.idxA 2 (.s 29) (.s 31)),
 sq 35 (.load true 2 (.s 34)),
 sq 7 (.alloc 2 (.agg [(.bool false),(.sl .nil [])])),
 sa 6 (.mv (.s 33)),
 se (.store 2 (.s 7) (.s 35))])
 (.seq (.seq (.reg [1,5,6,7,29,30,31] [sq 36 (.load true 2 (.s 7)),
 sq 37 (.call (.c (.fn (.func 84) [] [])) [(.s 36)]),
 sq 38 (.bin .eql .num (.s 37) (.c (.int .i64 0)))])
 (.cond (.s 38)
 (.exit 1)
 .skip))
 (.seq (.reg [1,5,6,7,29,30,31] [sq 39 (.mv (.s 1)),
 sq 40 (.len false (.s 39)),
 sq 41 (.mv (.c (.int .i64 0)))])
 (.block 2
 (.loop [1,5,6,7,29,30,31,39,40,41] i95b0))))))
 (.reg [1,5,29,30,31] [sq 62 (.bin .add .num (.s 31) (.c (.int .i64 1))),
 sq 31 (.mv (.s 62))]))))
def i95 : IFn:={ nparams:=2,ntmps:=65,results:=[.tmp 4],body :=
 (.seq (.reg [0,1] [sa 4 (.mv (.c (.sl .nil [])))])
 (.seq (.reg [0,1] [sq 10 (.mv (.s 0)),
 sq 11 (.call (.c (.fn (.func 130) [] [])) [(.s 10)]),
 sq 12 (.mv (.s 1)),
 sq 13 (.call (.c (.fn (.func 130) [] [])) [(.s 12)]),
 sa 0 (.mv (.s 11)),
 sa 1 (.mv (.s 13))])
 (.seq (.seq (.reg [0,1] [sq 14 (.mv (.s 0)),
 sq 15 (.len false (.s 14)),
 sq 16 (.bin .eql .num (.s 15) (.c (.int .i64 0))),
 sq 17 (.mv (.s 16)),
 ⟨(some 18),.mv (.s 1),(some (17,false)),[],false⟩,
 ⟨(some 19),.len false (.s 18),(some (17,false)),[],false⟩,
 ⟨(some 20),.bin .eql .num (.s 19) (.c (.int .i64 0)),(some (17,false)),[],false⟩,
 sq 21 (.pick (.s 17) (.c (.bool true)) (.s 20))])
 (.cond (.s 21)
 (.seq (.reg [] [sa 4 (.mv (.c (.sl .nil [])))])
 .ret)
 .skip))
 (.seq (.reg [0,1] [sq 22 (.mv (.s 0)),
 sq 23 (.len false (.s 22)),
 sq 24 (.mv (.s 1)),
 sq 25 (.len false (.s 24)),
 sq 26 (.bin .add .num (.s 23) (.s 25)),
 sq 27 (.bin .sub .num (.s 26) (.c (.int .i64 1))),
 sq 28 (.mksl 2 32 (.agg [(.bool false),(.sl .nil [])]) (.s 27) (.s 27)),
 sa 5 (.mv (.s 28))])
 (.seq (.seq (.reg [0,1,5] [sq 29 (.mv (.s 0)),
 sq 30 (.len false (.s 29)),
 sq 31 (.mv (.c (.int .i64 0)))])
 (.block 0
 (.loop [1,5,29,30,31] i95b1)))
 (.seq (.reg [5] [sq 63 (.mv (.s 5)),
 sq 64 (.call (.c (.fn (.func 130) [] [])) [(.s 63)]),
 sa 4 (.mv (.s 64))])
 .ret)))))) }
theorem tr95 : trF Tryz.prog h95 Tryz.f95 = some i95:=by kernel_rfl
end Go.Proofs.YtklelbidjcealaaGreat
set_option maxRecDepth 100000
namespace Go.Proofs.YtklelbidjcealaaGreat
open Go.Ab
def h96 : List (List Nat):=[[0],[0]]
def i96 : IFn:={ nparams:=1,ntmps:=6,results:=[.tmp 2],body :=
 (.seq (.reg [0] [sa 2 (.mv (.c (.int .i64 0)))])
 (.seq (.reg [0] [sq 3 (.mv (.s 0)),
 sq 4 (.len false (.s 3)),
 sq 5 (.bin .sub .num (.s 4) (.c (.int .i64 1))),
 sa 2 (.mv (.s 5))])
 .ret)) }
theorem tr96 : trF Tryz.prog h96 Tryz.f96 = some i96:=by kernel_rfl
def h97 : List (List Nat):=[[0],[0],[0,3],[0,3,4],[0,3,4],[0,3,4],[0,3,4,5],[0,4,5],[0,3,4],[3]]
def i97b0 : ICode :=
 (.seq (.seq (.reg [0,3,4] [sq 6 (.mv (.s 4)),
 sq 7 (.mv (.s 0)),
 sq 8 (.len false (.s 7)),
 sq 9 (.bin .lss .num (.s 6) (.s 8))])
 (.cond (.s 9)
 .skip
 (.exit 0)))
 (.seq (.block 1
 (.seq (.reg [0,3,4] [sq 12 (.mv (.s 0)),
 sq 13 (.mv (.s 4)),
 sq 14 (.idxA 2 (.s 12) (.s 13)),
 sq 15 (.load true 2 (.s 14)),
 sq 16 (.call (.c (.fn (.func 74) [] [])) [(.s 15)]),
 sa 5 (.mv (.s 16))])
 (.seq (.reg [0,3,4,5] [sq 17 (.mv (.s 5)),
 sq 18 (.mv (.s 3)),
 sq 19 (.bin .gtr .num (.s 17) (.s 18))])
 (.cond (.s 19)
 (.reg [0,4,5] [sq 20 (.mv (.s 5)),
 sa 3 (.mv (.s 20))])
 .skip))))
 (.reg [0,3,4] [sq 10 (.mv (.s 4)),
 sq 11 (.bin .add .num (.s 10) (.c (.int .i64 1))),
 sa 4 (.mv (.s 11))])))
def i97 : IFn:={ nparams:=1,ntmps:=22,results:=[.tmp 2],body :=
 (.seq (.reg [0] [sa 2 (.mv (.c (.int .i64 0)))])
 (.seq (.reg [0] [sa 3 (.mv (.c (.int .i64 0)))])
 (.seq (.seq (.reg [0,3] [sa 4 (.mv (.c (.int .i64 0)))])
 (.block 0
 (.loop [0,3,4] i97b0)))
 (.seq (.reg [3] [sq 21 (.mv (.s 3)),
 sa 2 (.mv (.s 21))])
 .ret)))) }
theorem tr97 : trF Tryz.prog h97 Tryz.f97 = some i97:=by kernel_rfl
def h98 : List (List Nat):=[[0,1],[0,1],[0,1,5],[0,1,5,6],[0,1,5,6],[0,1,5,6],[0,1,5,6],[5]]
def i98b0 : ICode :=
 (.seq (.seq (.reg [0,1,5,6] [sq 7 (.mv (.s 6)),
 sq 8 (.mv (.s 0)),
 sq 9 (.len false (.s 8)),
 sq 10 (.bin .lss .num (.s 7) (.s 9)),
 sq 11 (.mv (.s 10)),
 ⟨(some 12),.mv (.s 6),(some (11,false)),[],false⟩,
 ⟨(some 13),.mv (.s 1),(some (11,false)),[],false⟩,
 ⟨(some 14),.len false (.s 13),(some (11,false)),[],false⟩,
 ⟨(some 15),.bin .lss .num (.s 12) (.s 14),(some (11,false)),[],false⟩,
 sq 16 (.pick (.s 11) (.c (.bool true)) (.s 15))])
 (.cond (.s 16)
 .skip
 (.exit 0)))
 (.seq (.block 1
 (.reg [0,1,5,6] [sq 19 (.mv (.s 5)),
 sq 20 (.mv (.s 0)),
 sq 21 (.mv (.s 6)),
 sq 22 (.call (.c (.fn (.func 143) [] [])) [(.s 20),(.s 21)]),
 sq 23 (.mv (.s 1)),
 sq 24 (.mv (.s 6)),
 sq 25 (.call (.c (.fn (.func 143) [] [])) [(.s 23),(.s 24)]),
 sq 26 (.call (.c (.fn (.func 101) [] [])) [(.s 22),(.s 25)]),
 sq 27 (.bsl 2 (.agg [(.bool false),(.sl .nil [])]) 1 [(0,(.s 26))]),
 sq 28 (.app 2 32 (.s 19) (.s 27)),
 sa 5 (.mv (.s 28))]))
 (.reg [0,1,5,6] [sq 17 (.mv (.s 6)),
 sq 18 (.bin .add .num (.s 17) (.c (.int .i64 1))),
 sa 6 (.mv (.s 18))])))
def i98 : IFn:={ nparams:=2,ntmps:=31,results:=[.tmp 4],body :=
 (.seq (.reg [0,1] [sa 4 (.mv (.c (.sl .nil [])))])
 (.seq (.reg [0,1] [sa 5 (.mv (.c (.sl .nil [])))])
 (.seq (.seq (.reg [0,1,5] [sa 6 (.mv (.c (.int .i64 0)))])
 (.block 0
 (.loop [0,1,5,6] i98b0)))
 (.seq (.reg [5] [sq 29 (.mv (.s 5)),
 sq 30 (.call (.c (.fn (.func 80) [] [])) [(.s 29)]),
 sa 4 (.mv (.s 30))])
 .ret)))) }
theorem tr98 : trF Tryz.prog h98 Tryz.f98 = some i98:=by kernel_rfl
def h99 : List (List Nat):=[[0,1,2],[0,1,2],[0,1,2,7],[0,1,2,7,16,17],[0,1,2,7,16,17],[0,1,2,7,16,17],[0,1,2,7,8,16,17],[0,1,2,7,16,17],[7]]
def i99b0 : ICode :=
 (.seq (.reg [0,1,2,7,16,17] [sq 18 (.bin .lss .num (.s 17) (.s 16))])
 (.seq (.cond (.s 18)
 .skip
 (.exit 0))
 (.seq (.block 1
 (.seq (.reg [0,1,2,7,16,17] [sq 19 (.mv (.s 17)),
 sa 8 (.mv (.s 19))])
 (.reg [0,1,2,7,8,16,17] [sq 20 (.mv (.s 7)),
 sq 21 (.mv (.s 8)),
 sq 22 (.mv (.s 2)),
 sq 23 (.mv (.s 0)),
 sq 24 (.mv (.s 8)),
 sq 25 (.call (.c (.fn (.func 146) [] [])) [(.s 23),(.s 24)]),
 sq 26 (.mv (.s 1)),
 sq 27 (.mv (.s 8)),
 sq 28 (.call (.c (.fn (.func 146) [] [])) [(.s 26),(.s 27)]),
 sq 29 (.call (.s 22) [(.s 25),(.s 28)]),
 sq 30 (.idxA 1 (.s 20) (.s 21)),
 se (.store 1 (.s 30) (.s 29))])))
 (.reg [0,1,2,7,16,17] [sq 31 (.bin .add .num (.s 17) (.c (.int .i64 1))),
 sq 17 (.mv (.s 31))]))))
def i99 : IFn:={ nparams:=3,ntmps:=34,results:=[.tmp 6],body :=
 (.seq (.reg [0,1,2] [sa 6 (.mv (.c (.sl .nil [])))])
 (.seq (.reg [0,1,2] [sq 9 (.mv (.s 0)),
 sq 10 (.len false (.s 9)),
 sq 11 (.mv (.s 1)),
 sq 12 (.len false (.s 11)),
 sq 13 (.mx [(.s 10),(.s 12)]),
 sq 14 (.mksl 1 24 (.sl .nil []) (.s 13) (.s 13)),
 sa 7 (.mv (.s 14))])
 (.seq (.seq (.reg [0,1,2,7] [sq 15 (.mv (.s 7)),
 sq 16 (.len false (.s 15)),
 sq 17 (.mv (.c (.int .i64 0)))])
 (.block 0
 (.loop [0,1,2,7,16,17] i99b0)))
 (.seq (.reg [7] [sq 32 (.mv (.s 7)),
 sq 33 (.call (.c (.fn (.func 83) [] [])) [(.s 32)]),
 sa 6 (.mv (.s 33))])
 .ret)))) }
theorem tr99 : trF Tryz.prog h99 Tryz.f99 = some i99:=by kernel_rfl
def h100 : List (List Nat):=[[0,1],[0,1],[0,1],[],[0,1],[0,1,16,17],[0,1,16,17],[0,1,16,17],[0,1,5,16,17],[],[0,1,16,17],[]]
def i100d0 : List IStep:=[sq 20 (.mv (.s 0)),
 sq 21 (.mv (.s 5)),
 ⟨(some 22),.idxA 2 (.s 20) (.s 21),none,[0,1],false⟩,
 ⟨(some 23),.load true 2 (.s 22),none,[2],false⟩,
 sq 24 (.mv (.s 1)),
 sq 25 (.mv (.s 5)),
 ⟨(some 26),.idxA 2 (.s 24) (.s 25),none,[4,5],false⟩,
 ⟨(some 27),.load true 2 (.s 26),none,[6],false⟩,
 ⟨(some 28),.call (.c (.fn (.func 147) [] [])) [(.s 23),(.s 27)],none,[3,7],false⟩,
 ⟨(some 29),.bin .neq .num (.s 28) (.c (.int .i64 0)),none,[8],false⟩]
theorem i100d0t : tame i100d0 = true:=by kernel_rfl
def i100b0 : ICode :=
 (.seq (.reg [0,1,16,17] [sq 18 (.bin .lss .num (.s 17) (.s 16))])
 (.seq (.cond (.s 18)
 .skip
 (.exit 0))
 (.seq (.block 1
 (.seq (.reg [0,1,16,17] [sq 19 (.mv (.s 17)),
 sa 5 (.mv (.s 19))])
 (.seq (.draw [0,1,5,16,17] i100d0)
 (.cond (.s 29)
 (.seq (.reg [] [sa 4 (.mv (.c (.bool false)))])
 .ret)
 .skip))))
 (.reg [0,1,16,17] [sq 30 (.bin .add .num (.s 17) (.c (.int .i64 1))),
 sq 17 (.mv (.s 30))]))))
def i100 : IFn:={ nparams:=2,ntmps:=31,results:=[.tmp 4],body :=
 (.seq (.reg [0,1] [sa 4 (.mv (.c (.bool false)))])
 (.seq (.reg [0,1] [sq 6 (.mv (.s 0)),
 sq 7 (.call (.c (.fn (.func 130) [] [])) [(.s 6)]),
 sq 8 (.mv (.s 1)),
 sq 9 (.call (.c (.fn (.func 130) [] [])) [(.s 8)]),
 sa 0 (.mv (.s 7)),
 sa 1 (.mv (.s 9))])
 (.seq (.seq (.reg [0,1] [sq 10 (.mv (.s 0)),
 sq 11 (.len false (.s 10)),
 sq 12 (.mv (.s 1)),
 sq 13 (.len false (.s 12)),
 sq 14 (.bin .neq .num (.s 11) (.s 13))])
 (.cond (.s 14)
 (.seq (.reg [] [sa 4 (.mv (.c (.bool false)))])
 .ret)
 .skip))
 (.seq (.seq (.reg [0,1] [sq 15 (.mv (.s 0)),
 sq 16 (.len false (.s 15)),
 sq 17 (.mv (.c (.int .i64 0)))])
 (.block 0
 (.loop [0,1,16,17] i100b0)))
 (.seq (.reg [] [sa 4 (.mv (.c (.bool true)))])
 .ret))))) }
theorem tr100 : trF Tryz.prog h100 Tryz.f100 = some i100:=by kernel_rfl
def h101 : List (List Nat):=[[0,1],[2,3,4],[2,3,4],[2,3,4],[2,3,4],[2,3,4]]
def i101d0 : List IStep:=[sq 10 (.fldA 0 false 1 (.s 2)),
 ⟨(some 11),.load false 1 (.s 10),none,[0],false⟩,
 sq 12 (.fldA 1 false 1 (.s 2)),
 ⟨(some 13),.load false 1 (.s 12),none,[2],false⟩,
 sq 14 (.fldA 1 false 1 (.s 3)),
 ⟨(some 15),.load false 1 (.s 14),none,[4],false⟩,
 ⟨(some 16),.call (.c (.fn (.func 148) [] [])) [(.s 13),(.s 15)],none,[3,5],false⟩,
 ⟨(some 17),.call (.c (.fn (.func 79) [] [])) [(.s 11),(.s 16)],none,[1,6],false⟩,
 ⟨none,.store 2 (.s 4) (.s 17),none,[7,0,1,2,3,4,5,6],false⟩]
theorem i101d0t : tame i101d0 = true:=by kernel_rfl
def i101d1 : List IStep:=[sq 24 (.fldA 0 false 1 (.s 2)),
 ⟨(some 25),.load false 1 (.s 24),none,[0],false⟩,
 sq 26 (.fldA 1 false 1 (.s 2)),
 ⟨(some 27),.load false 1 (.s 26),none,[2],false⟩,
 sq 28 (.fldA 1 false 1 (.s 3)),
 ⟨(some 29),.load false 1 (.s 28),none,[4],false⟩,
 ⟨(some 30),.call (.c (.fn (.func 150) [] [])) [(.s 27),(.s 29)],none,[3,5],false⟩,
 ⟨(some 31),.call (.c (.fn (.func 79) [] [])) [(.s 25),(.s 30)],none,[1,6],false⟩,
 ⟨none,.store 2 (.s 4) (.s 31),none,[7,0,1,2,3,4,5,6],false⟩]
theorem i101d1t : tame i101d1 = true:=by kernel_rfl
def i101d2 : List IStep:=[sq 32 (.fldA 0 false 1 (.s 3)),
 ⟨(some 33),.load false 1 (.s 32),none,[0],false⟩,
 sq 34 (.fldA 1 false 1 (.s 3)),
 ⟨(some 35),.load false 1 (.s 34),none,[2],false⟩,
 sq 36 (.fldA 1 false 1 (.s 2)),
 ⟨(some 37),.load false 1 (.s 36),none,[4],false⟩,
 ⟨(some 38),.call (.c (.fn (.func 150) [] [])) [(.s 35),(.s 37)],none,[3,5],false⟩,
 ⟨(some 39),.call (.c (.fn (.func 79) [] [])) [(.s 33),(.s 38)],none,[1,6],false⟩,
 ⟨none,.store 2 (.s 4) (.s 39),none,[7,0,1,2,3,4,5,6],false⟩]
theorem i101d2t : tame i101d2 = true:=by kernel_rfl
def i101 : IFn:={ nparams:=2,ntmps:=40,results:=[.cell 4 true 2],body :=
 (.seq (.reg [0,1] [sq 2 (.box 2 (.s 0)),
 sq 3 (.box 2 (.s 1)),
 sq 4 (.alloc 2 (.agg [(.bool false),(.sl .nil [])]))])
 (.seq (.seq (.reg [2,3,4] [sq 5 (.fldA 0 false 1 (.s 2)),
 sq 6 (.load false 1 (.s 5)),
 sq 7 (.fldA 0 false 1 (.s 3)),
 sq 8 (.load false 1 (.s 7)),
 sq 9 (.bin .eql .bool (.s 6) (.s 8))])
 (.cond (.s 9)
 (.seq (.draw [2,3,4] i101d0)
 .ret)
 .skip))
 (.seq (.seq (.reg [2,3,4] [sq 18 (.fldA 1 false 1 (.s 2)),
 sq 19 (.load false 1 (.s 18)),
 sq 20 (.fldA 1 false 1 (.s 3)),
 sq 21 (.load false 1 (.s 20)),
 sq 22 (.call (.c (.fn (.func 149) [] [])) [(.s 19),(.s 21)]),
 sq 23 (.bin .geq .num (.s 22) (.c (.int .i64 0)))])
 (.cond (.s 23)
 (.seq (.draw [2,3,4] i101d1)
 .ret)
 .skip))
 (.seq (.draw [2,3,4] i101d2)
 .ret)))) }
theorem tr101 : trF Tryz.prog h101 Tryz.f101 = some i101:=by kernel_rfl
def h102 : List (List Nat):=[[0,1],[2,3,4],[2,3,4,5],[2,3,4,5,6],[2,3,4,5,6],[2,3,4,5,6],[2,3,4,5,6,7],[2,3,4,5,6,7,8],[2,3,4,5,6,7,8],[2,3,4,5,6,7,8],[2,3,4,5,6,7,8],[2,3,4,5,6,7,8],[2,3,4,5,6,7,8],[2,3,4,5,6,7],[2,3,4,5,6,7,9],[2,3,4,5,6,7,9],[2,3,4,5,6,7,9],[2,3,4,5,6,7,9],[2,3,4,5,6,7,9],[2,3,4,5,6,7,9],[2,3,4,5,6],[2,3,4,5]]
def i102d0 : List IStep:=[sq 33 (.mv (.s 7)),
 sq 34 (.mv (.s 5)),
 sq 35 (.mv (.s 6)),
 sq 36 (.mv (.s 8)),
 ⟨(some 37),.bin .add .num (.s 35) (.s 36),none,[2,3],false⟩,
 ⟨(some 38),.idxA 1 (.s 34) (.s 37),none,[1,4],false⟩,
 ⟨(some 39),.load false 1 (.s 38),none,[5],false⟩,
 sq 40 (.fldA 1 false 1 (.s 2)),
 ⟨(some 41),.load false 1 (.s 40),none,[7],false⟩,
 sq 42 (.mv (.s 6)),
 ⟨(some 43),.idxA 1 (.s 41) (.s 42),none,[8,9],false⟩,
 ⟨(some 44),.load false 1 (.s 43),none,[10],false⟩,
 sq 45 (.fldA 1 false 1 (.s 3)),
 ⟨(some 46),.load false 1 (.s 45),none,[12],false⟩,
 sq 47 (.mv (.s 8)),
 ⟨(some 48),.idxA 1 (.s 46) (.s 47),none,[13,14],false⟩,
 ⟨(some 49),.load false 1 (.s 48),none,[15],false⟩,
 ⟨(some 50),.bin .mul .num (.s 44) (.s 49),none,[11,16],false⟩,
 ⟨(some 51),.bin .add .num (.s 39) (.s 50),none,[6,17],false⟩,
 ⟨(some 52),.bin .add .num (.s 33) (.s 51),none,[0,18],false⟩,
 ⟨(some 7),.mv (.s 52),none,[19,0,1,2,3,4,5,6,7,8,9,10,11,12,13,14,15,16,17,18],true⟩]
theorem i102d0t : tame i102d0 = true:=by kernel_rfl
def i102b0 : ICode :=
 (.seq (.seq (.reg [2,3,4,5,6,7,8] [sq 26 (.mv (.s 8)),
 sq 27 (.fldA 1 false 1 (.s 3)),
 sq 28 (.load false 1 (.s 27)),
 sq 29 (.len false (.s 28)),
 sq 30 (.bin .lss .num (.s 26) (.s 29))])
 (.cond (.s 30)
 .skip
 (.exit 2)))
 (.seq (.block 3
 (.seq (.draw [2,3,4,5,6,7,8] i102d0)
 (.seq (.reg [2,3,4,5,6,7,8] [sq 53 (.mv (.s 5)),
 sq 54 (.mv (.s 6)),
 sq 55 (.mv (.s 8)),
 sq 56 (.bin .add .num (.s 54) (.s 55)),
 sq 57 (.mv (.s 7)),
 sq 58 (.bin .rem .num (.s 57) (.c (.int .i64 65536))),
 sq 59 (.idxA 1 (.s 53) (.s 56)),
 se (.store 1 (.s 59) (.s 58))])
 (.reg [2,3,4,5,6,7,8] [sq 60 (.mv (.s 7)),
 sq 61 (.bin .quo .num (.s 60) (.c (.int .i64 65536))),
 sa 7 (.mv (.s 61))]))))
 (.reg [2,3,4,5,6,7,8] [sq 31 (.mv (.s 8)),
 sq 32 (.bin .add .num (.s 31) (.c (.int .i64 1))),
 sa 8 (.mv (.s 32))])))
def i102b1 : ICode :=
 (.seq (.seq (.reg [2,3,4,5,6,7,9] [sq 67 (.mv (.s 7)),
 sq 68 (.bin .gtr .num (.s 67) (.c (.int .i64 0)))])
 (.cond (.s 68)
 .skip
 (.exit 4)))
 (.seq (.block 5
 (.seq (.reg [2,3,4,5,6,7,9] [sq 71 (.mv (.s 7)),
 sq 72 (.mv (.s 5)),
 sq 73 (.mv (.s 9)),
 sq 74 (.idxA 1 (.s 72) (.s 73)),
 sq 75 (.load false 1 (.s 74)),
 sq 76 (.bin .add .num (.s 71) (.s 75)),
 sa 7 (.mv (.s 76))])
 (.seq (.reg [2,3,4,5,6,7,9] [sq 77 (.mv (.s 5)),
 sq 78 (.mv (.s 9)),
 sq 79 (.mv (.s 7)),
 sq 80 (.bin .rem .num (.s 79) (.c (.int .i64 65536))),
 sq 81 (.idxA 1 (.s 77) (.s 78)),
 se (.store 1 (.s 81) (.s 80))])
 (.reg [2,3,4,5,6,7,9] [sq 82 (.mv (.s 7)),
 sq 83 (.bin .quo .num (.s 82) (.c (.int .i64 65536))),
 sa 7 (.mv (.s 83))]))))
 (.reg [2,3,4,5,6,7,9] [sq 69 (.mv (.s 9)),
 sq 70 (.bin .add .num (.s 69) (.c (.int .i64 1))),
 sa 9 (.mv (.s 70))])))
def i102b2 : ICode :=
 (.seq (.seq (.reg [2,3,4,5,6] [sq 19 (.mv (.s 6)),
 sq 20 (.fldA 1 false 1 (.s 2)),
 sq 21 (.load false 1 (.s 20)),
 sq 22 (.len false (.s 21)),
 sq 23 (.bin .lss .num (.s 19) (.s 22))])
 (.cond (.s 23)
 .skip
 (.exit 0)))
 (.seq (.block 1
 (.seq (.reg [2,3,4,5,6] [sa 7 (.mv (.c (.int .i64 0)))])
 (.seq (.seq (.reg [2,3,4,5,6,7] [sa 8 (.mv (.c (.int .i64 0)))])
 (.block 2
 (.loop [2,3,4,5,6,7,8] i102b0)))
 (.seq (.reg [2,3,4,5,6,7] [sq 62 (.mv (.s 6)),
 sq 63 (.fldA 1 false 1 (.s 3)),
 sq 64 (.load false 1 (.s 63)),
 sq 65 (.len false (.s 64)),
 sq 66 (.bin .add .num (.s 62) (.s 65)),
 sa 9 (.mv (.s 66))])
 (.block 4
 (.loop [2,3,4,5,6,7,9] i102b1))))))
 (.reg [2,3,4,5,6] [sq 24 (.mv (.s 6)),
 sq 25 (.bin .add .num (.s 24) (.c (.int .i64 1))),
 sa 6 (.mv (.s 25))])))
def i102 : IFn:={ nparams:=2,ntmps:=91,results:=[.cell 4 true 2],body :=
 (.seq (.reg [0,1] [sq 2 (.box 2 (.s 0)),
 sq 3 (.box 2 (.s 1)),
 sq 4 (.alloc 2 (.agg [(.bool false),(.sl .nil [])]))])
 (.seq (.reg [2,3,4] [sq 10 (.fldA 1 false 1 (.s 2)),
 sq 11 (.load false 1 (.s 10)),
 sq 12 (.len false (.s 11)),
 sq 13 (.fldA 1 false 1 (.s 3)),
 sq 14 (.load false 1 (.s 13)),
 sq 15 (.len false (.s 14)),
 sq 16 (.bin .add .num (.s 12) (.s 15)),
 sq 17 (.bin .add .num (.s 16) (.c (.int .i64 1))),
 sq 18 (.mksl 1 8 (.int .i64 0) (.s 17) (.s 17)),
 sa 5 (.mv (.s 18))])
 (.seq (.seq (.reg [2,3,4,5] [sa 6 (.mv (.c (.int .i64 0)))])
 (.block 0
 (.loop [2,3,4,5,6] i102b2)))
 (.seq (.reg [2,3,4,5] [sq 84 (.fldA 0 false 1 (.s 2)),
 sq 85 (.load false 1 (.s 84)),
 sq 86 (.fldA 0 false 1 (.s 3)),
 sq 87 (.load false 1 (.s 86)),
 sq 88 (.bin .neq .bool (.s 85) (.s 87)),
 sq 89 (.mv (.s 5)),
 sq 90 (.call (.c (.fn (.func 79) [] [])) [(.s 88),(.s 89)]),
 se (.store 2 (.s 4) (.s 90))])
 .ret)))) }
theorem tr102 : trF Tryz.prog h102 Tryz.f102 = some i102:=by kernel_rfl
def h103 : List (List Nat):=[[0,1],[2,3,4]]
def i103 : IFn:={ nparams:=2,ntmps:=8,results:=[.cell 4 true 2],body :=
 (.seq (.reg [0,1] [sq 2 (.box 2 (.s 0)),
 sq 3 (.box 2 (.s 1)),
 sq 4 (.alloc 2 (.agg [(.bool false),(.sl .nil [])]))])
 (.seq (.reg [2,3,4] [sq 5 (.load true 2 (.s 2)),
 sq 6 (.load true 2 (.s 3)),
 sq 7 (.call (.c (.fn (.func 151) [] [])) [(.s 5),(.s 6),(.c (.bool false))]),
 se (.store 2 (.s 4) (.s 7))])
 .ret)) }
theorem tr103 : trF Tryz.prog h103 Tryz.f103 = some i103:=by kernel_rfl
def h104 : List (List Nat):=[[0,1],[0,3],[0,3],[0,3,5],[0,3,5,6],[0,3,5,6],[0,3,5,6],[0,3,5,6],[5]]
def i104d0 : List IStep:=[sq 16 (.mv (.s 5)),
 sq 17 (.load true 2 (.s 3)),
 ⟨(some 18),.call (.c (.fn (.func 152) [] [])) [(.s 17)],none,[1],false⟩,
 ⟨(some 19),.call (.c (.fn (.func 95) [] [])) [(.s 16),(.s 18)],none,[0,2],false⟩,
 sq 20 (.mv (.s 0)),
 sq 21 (.mv (.s 6)),
 ⟨(some 22),.idxA 2 (.s 20) (.s 21),none,[4,5],false⟩,
 ⟨(some 23),.load true 2 (.s 22),none,[6],false⟩,
 ⟨(some 24),.bsl 2 (.agg [(.bool false),(.sl .nil [])]) 1 [(0,(.s 23))],none,[7],false⟩,
 ⟨(some 25),.call (.c (.fn (.func 94) [] [])) [(.s 19),(.s 24)],none,[3,8],false⟩,
 ⟨(some 5),.mv (.s 25),none,[9,0,1,2,3,4,5,6,7,8],true⟩]
theorem i104d0t : tame i104d0 = true:=by kernel_rfl
def i104b0 : ICode :=
 (.seq (.seq (.reg [0,3,5,6] [sq 12 (.mv (.s 6)),
 sq 13 (.bin .geq .num (.s 12) (.c (.int .i64 0)))])
 (.cond (.s 13)
 .skip
 (.exit 0)))
 (.seq (.block 1
 (.draw [0,3,5,6] i104d0))
 (.reg [0,3,5,6] [sq 14 (.mv (.s 6)),
 sq 15 (.bin .sub .num (.s 14) (.c (.int .i64 1))),
 sa 6 (.mv (.s 15))])))
def i104 : IFn:={ nparams:=2,ntmps:=27,results:=[.tmp 4],body :=
 (.seq (.reg [0,1] [sq 3 (.box 2 (.s 1)),
 sa 4 (.mv (.c (.sl .nil [])))])
 (.seq (.reg [0,3] [sq 7 (.mv (.s 0)),
 sq 8 (.call (.c (.fn (.func 130) [] [])) [(.s 7)]),
 sa 0 (.mv (.s 8))])
 (.seq (.reg [0,3] [sa 5 (.mv (.c (.sl .nil [])))])
 (.seq (.seq (.reg [0,3,5] [sq 9 (.mv (.s 0)),
 sq 10 (.len false (.s 9)),
 sq 11 (.bin .sub .num (.s 10) (.c (.int .i64 1))),
 sa 6 (.mv (.s 11))])
 (.block 0
 (.loop [0,3,5,6] i104b0)))
 (.seq (.reg [5] [sq 26 (.mv (.s 5)),
 sa 4 (.mv (.s 26))])
 .ret))))) }
theorem tr104 : trF Tryz.prog h104 Tryz.f104 = some i104:=by kernel_rfl
def h105 : List (List Nat):=[[0,1],[0,1],[0,5],[0,5,6],[0,5,6,12,13],[0,5,6,12,13],[0,5,6,12,13],[0,5,6,7,12,13],[0,5,6,12,13],[0,5,6,12,13],[5]]
def i105d0 : List IStep:=[sq 16 (.mv (.s 5)),
 sq 17 (.mv (.s 7)),
 sq 18 (.mv (.s 5)),
 sq 19 (.mv (.s 7)),
 ⟨(some 20),.idxA 2 (.s 18) (.s 19),none,[2,3],false⟩,
 ⟨(some 21),.load true 2 (.s 20),none,[4],false⟩,
 sq 22 (.load true 2 (.s 6)),
 ⟨(some 23),.call (.c (.fn (.func 145) [] [])) [(.s 21),(.s 22)],none,[5,6],false⟩,
 ⟨(some 24),.idxA 2 (.s 16) (.s 17),none,[0,1,2,3,4,5,6,7],false⟩,
 ⟨none,.store 2 (.s 24) (.s 23),none,[8,7,0,1,2,3,4,5,6],false⟩]
theorem i105d0t : tame i105d0 = true:=by kernel_rfl
def i105d1 : List IStep:=[sq 25 (.load true 2 (.s 6)),
 sq 26 (.mv (.s 0)),
 ⟨(some 27),.nilc (.s 26),none,[1],false⟩,
 ⟨(some 28),.fldA 1 true 2 (.s 27),none,[2],false⟩,
 ⟨(some 29),.load true 2 (.s 28),none,[3],false⟩,
 ⟨(some 30),.call (.c (.fn (.func 145) [] [])) [(.s 25),(.s 29)],none,[0,4],false⟩,
 ⟨none,.store 2 (.s 6) (.s 30),none,[5,0,1,2,3,4],false⟩]
theorem i105d1t : tame i105d1 = true:=by kernel_rfl
def i105b0 : ICode :=
 (.seq (.reg [0,5,6,12,13] [sq 14 (.bin .lss .num (.s 13) (.s 12))])
 (.seq (.cond (.s 14)
 .skip
 (.exit 0))
 (.seq (.block 1
 (.seq (.reg [0,5,6,12,13] [sq 15 (.mv (.s 13)),
 sa 7 (.mv (.s 15))])
 (.seq (.draw [0,5,6,7,12,13] i105d0)
 (.draw [0,5,6,12,13] i105d1))))
 (.reg [0,5,6,12,13] [sq 31 (.bin .add .num (.s 13) (.c (.int .i64 1))),
 sq 13 (.mv (.s 31))]))))
def i105 : IFn:={ nparams:=2,ntmps:=33,results:=[.tmp 4],body :=
 (.seq (.reg [0,1] [sa 4 (.mv (.c (.sl .nil [])))])
 (.seq (.reg [0,1] [sq 8 (.mv (.s 1)),
 sq 9 (.call (.c (.fn (.func 93) [] [])) [(.s 8)]),
 sa 5 (.mv (.s 9))])
 (.seq (.reg [0,5] [sq 10 (.call (.c (.fn (.func 87) [] [])) [(.c (.int .i64 1))]),
 sq 6 (.alloc 2 (.agg [(.bool false),(.sl .nil [])])),
 se (.store 2 (.s 6) (.s 10))])
 (.seq (.seq (.reg [0,5,6] [sq 11 (.mv (.s 5)),
 sq 12 (.len false (.s 11)),
 sq 13 (.mv (.c (.int .i64 0)))])
 (.block 0
 (.loop [0,5,6,12,13] i105b0)))
 (.seq (.reg [5] [sq 32 (.mv (.s 5)),
 sa 4 (.mv (.s 32))])
 .ret))))) }
theorem tr105 : trF Tryz.prog h105 Tryz.f105 = some i105:=by kernel_rfl
def h106 : List (List Nat):=[[0,1],[0,3]]
def i106d0 : List IStep:=[sq 5 (.mv (.s 0)),
 sq 6 (.load true 2 (.s 3)),
 sq 7 (.call (.c (.fn (.func 22) [] [])) [(.c (.int .i64 1))]),
 ⟨(some 8),.bsl 2 (.agg [(.bool false),(.sl .nil [])]) 2 [(0,(.s 6)),(1,(.s 7))],none,[1,2],false⟩,
 ⟨(some 9),.call (.c (.fn (.func 107) [] [])) [(.s 5),(.s 8)],none,[0,3,2],false⟩,
 ⟨(some 4),.mv (.s 9),none,[4,0,1,2,3],true⟩]
theorem i106d0t : tame i106d0 = true:=by kernel_rfl
def i106 : IFn:={ nparams:=2,ntmps:=10,results:=[.tmp 4],body :=
 (.seq (.reg [0,1] [sq 3 (.box 2 (.s 1)),
 sa 4 (.mv (.c (.sl .nil [])))])
 (.seq (.draw [0,3] i106d0)
 .ret)) }
theorem tr106 : trF Tryz.prog h106 Tryz.f106 = some i106:=by kernel_rfl
def h107 : List (List Nat):=[[0,1],[0,1],[0,1,5],[0,1,5,6],[0,1,5,6],[0,1,5,6],[0,1,5,6],[5]]
def i107d0 : List IStep:=[sq 14 (.mv (.s 5)),
 sq 15 (.mv (.s 1)),
 ⟨(some 16),.call (.c (.fn (.func 42) [] [])) [(.s 14),(.s 15)],none,[0,1],false⟩,
 sq 17 (.mv (.s 0)),
 sq 18 (.mv (.s 6)),
 ⟨(some 19),.idxA 2 (.s 17) (.s 18),none,[3,4],false⟩,
 ⟨(some 20),.load true 2 (.s 19),none,[5],false⟩,
 ⟨(some 21),.bsl 2 (.agg [(.bool false),(.sl .nil [])]) 1 [(0,(.s 20))],none,[6],false⟩,
 ⟨(some 22),.call (.c (.fn (.func 80) [] [])) [(.s 21)],none,[7,2],false⟩,
 ⟨(some 23),.call (.c (.fn (.func 98) [] [])) [(.s 16),(.s 22)],none,[2,8],false⟩,
 ⟨(some 5),.mv (.s 23),none,[9,0,1,2,3,4,5,6,7,8],true⟩]
theorem i107d0t : tame i107d0 = true:=by kernel_rfl
def i107b0 : ICode :=
 (.seq (.seq (.reg [0,1,5,6] [sq 10 (.mv (.s 6)),
 sq 11 (.bin .geq .num (.s 10) (.c (.int .i64 0)))])
 (.cond (.s 11)
 .skip
 (.exit 0)))
 (.seq (.block 1
 (.draw [0,1,5,6] i107d0))
 (.reg [0,1,5,6] [sq 12 (.mv (.s 6)),
 sq 13 (.bin .sub .num (.s 12) (.c (.int .i64 1))),
 sa 6 (.mv (.s 13))])))
def i107 : IFn:={ nparams:=2,ntmps:=25,results:=[.tmp 4],body :=
 (.seq (.reg [0,1] [sa 4 (.mv (.c (.sl .nil [])))])
 (.seq (.reg [0,1] [sa 5 (.mv (.c (.sl .nil [])))])
 (.seq (.seq (.reg [0,1,5] [sq 7 (.mv (.s 0)),
 sq 8 (.len false (.s 7)),
 sq 9 (.bin .sub .num (.s 8) (.c (.int .i64 1))),
 sa 6 (.mv (.s 9))])
 (.block 0
 (.loop [0,1,5,6] i107b0)))
 (.seq (.reg [5] [sq 24 (.mv (.s 5)),
 sa 4 (.mv (.s 24))])
 .ret)))) }
theorem tr107 : trF Tryz.prog h107 Tryz.f107 = some i107:=by kernel_rfl
def h108 : List (List Nat):=[[0],[0],[0],[],[0],[0,3],[0,3,15,16],[0,3,15,16],[0,3,15,16],[0,3,4,15,16],[0,3,15,16],[3]]
def i108d0 : List IStep:=[sq 19 (.mv (.s 3)),
 sq 20 (.mv (.s 4)),
 sq 21 (.mv (.s 0)),
 sq 22 (.mv (.s 4)),
 ⟨(some 23),.bin .add .num (.s 22) (.c (.int .i64 1)),none,[3],false⟩,
 ⟨(some 24),.idxA 2 (.s 21) (.s 23),none,[2,4],false⟩,
 ⟨(some 25),.load true 2 (.s 24),none,[5],false⟩,
 sq 26 (.mv (.s 4)),
 ⟨(some 27),.bin .add .num (.s 26) (.c (.int .i64 1)),none,[7],false⟩,
 ⟨(some 28),.call (.c (.fn (.func 87) [] [])) [(.s 27)],none,[8],false⟩,
 ⟨(some 29),.call (.c (.fn (.func 145) [] [])) [(.s 25),(.s 28)],none,[6,9],false⟩,
 ⟨(some 30),.idxA 2 (.s 19) (.s 20),none,[0,1,2,3,4,5,6,7,8,9,10],false⟩,
 ⟨none,.store 2 (.s 30) (.s 29),none,[11,10,0,1,2,3,4,5,6,7,8,9],false⟩]
theorem i108d0t : tame i108d0 = true:=by kernel_rfl
def i108b0 : ICode :=
 (.seq (.reg [0,3,15,16] [sq 17 (.bin .lss .num (.s 16) (.s 15))])
 (.seq (.cond (.s 17)
 .skip
 (.exit 0))
 (.seq (.block 1
 (.seq (.reg [0,3,15,16] [sq 18 (.mv (.s 16)),
 sa 4 (.mv (.s 18))])
 (.draw [0,3,4,15,16] i108d0)))
 (.reg [0,3,15,16] [sq 31 (.bin .add .num (.s 16) (.c (.int .i64 1))),
 sq 16 (.mv (.s 31))]))))
def i108 : IFn:={ nparams:=1,ntmps:=34,results:=[.tmp 2],body :=
 (.seq (.reg [0] [sa 2 (.mv (.c (.sl .nil [])))])
 (.seq (.reg [0] [sq 5 (.mv (.s 0)),
 sq 6 (.call (.c (.fn (.func 130) [] [])) [(.s 5)]),
 sa 0 (.mv (.s 6))])
 (.seq (.seq (.reg [0] [sq 7 (.mv (.s 0)),
 sq 8 (.len false (.s 7)),
 sq 9 (.bin .lss .num (.s 8) (.c (.int .i64 2)))])
 (.cond (.s 9)
 (.seq (.reg [] [sa 2 (.mv (.c (.sl .nil [])))])
 .ret)
 .skip))
 (.seq (.reg [0] [sq 10 (.mv (.s 0)),
 sq 11 (.len false (.s 10)),
 sq 12 (.bin .sub .num (.s 11) (.c (.int .i64 1))),
 sq 13 (.mksl 2 32 (.agg [(.bool false),(.sl .nil [])]) (.s 12) (.s 12)),
 sa 3 (.mv (.s 13))])
 (.seq (.seq (.reg [0,3] [sq 14 (.mv (.s 3)),
 sq 15 (.len false (.s 14)),
 sq 16 (.mv (.c (.int .i64 0)))])
 (.block 0
 (.loop [0,3,15,16] i108b0)))
 (.seq (.reg [3] [sq 32 (.mv (.s 3)),
 sq 33 (.call (.c (.fn (.func 130) [] [])) [(.s 32)]),
 sa 2 (.mv (.s 33))])
 .ret)))))) }
theorem tr108 : trF Tryz.prog h108 Tryz.f108 = some i108:=by kernel_rfl
def h109 : List (List Nat):=[[0],[0],[0,3],[0,3,4],[0,3,4],[0,3,4],[0,3,4],[3]]
def i109d0 : List IStep:=[sq 11 (.mv (.s 3)),
 sq 12 (.mv (.s 4)),
 ⟨(some 13),.call (.c (.fn (.func 22) [] [])) [(.s 12)],none,[1],false⟩,
 sq 14 (.mv (.s 0)),
 sq 15 (.mv (.s 4)),
 ⟨(some 16),.idxA 2 (.s 14) (.s 15),none,[3,4],false⟩,
 ⟨(some 17),.load true 2 (.s 16),none,[5],false⟩,
 ⟨(some 18),.call (.c (.fn (.func 102) [] [])) [(.s 13),(.s 17)],none,[2,6],false⟩,
 ⟨(some 19),.bsl 2 (.agg [(.bool false),(.sl .nil [])]) 1 [(0,(.s 18))],none,[7],false⟩,
 ⟨(some 20),.app 2 32 (.s 11) (.s 19),none,[0,8,7],false⟩,
 ⟨(some 3),.mv (.s 20),none,[9,0,1,2,3,4,5,6,7,8],true⟩]
theorem i109d0t : tame i109d0 = true:=by kernel_rfl
def i109b0 : ICode :=
 (.seq (.seq (.reg [0,3,4] [sq 5 (.mv (.s 4)),
 sq 6 (.mv (.s 0)),
 sq 7 (.len false (.s 6)),
 sq 8 (.bin .lss .num (.s 5) (.s 7))])
 (.cond (.s 8)
 .skip
 (.exit 0)))
 (.seq (.block 1
 (.draw [0,3,4] i109d0))
 (.reg [0,3,4] [sq 9 (.mv (.s 4)),
 sq 10 (.bin .add .num (.s 9) (.c (.int .i64 1))),
 sa 4 (.mv (.s 10))])))
def i109 : IFn:={ nparams:=1,ntmps:=23,results:=[.tmp 2],body :=
 (.seq (.reg [0] [sa 2 (.mv (.c (.sl .nil [])))])
 (.seq (.reg [0] [sa 3 (.mv (.c (.sl .nil [])))])
 (.seq (.seq (.reg [0,3] [sa 4 (.mv (.c (.int .i64 1)))])
 (.block 0
 (.loop [0,3,4] i109b0)))
 (.seq (.reg [3] [sq 21 (.mv (.s 3)),
 sq 22 (.call (.c (.fn (.func 80) [] [])) [(.s 21)]),
 sa 2 (.mv (.s 22))])
 .ret)))) }
theorem tr109 : trF Tryz.prog h109 Tryz.f109 = some i109:=by kernel_rfl
def h110 : List (List Nat):=[[0,1],[2,3],[],[2,3],[2,3,5],[2,3,5],[2,3,5],[],[2,3,5],[]]
def i110d0 : List IStep:=[sq 27 (.fldA 1 false 1 (.s 2)),
 ⟨(some 28),.load false 1 (.s 27),none,[0],false⟩,
 sq 29 (.mv (.s 5)),
 ⟨(some 30),.idxA 1 (.s 28) (.s 29),none,[1,2],false⟩,
 ⟨(some 31),.load false 1 (.s 30),none,[3],false⟩,
 sq 32 (.fldA 1 false 1 (.s 3)),
 ⟨(some 33),.load false 1 (.s 32),none,[5],false⟩,
 sq 34 (.mv (.s 5)),
 ⟨(some 35),.idxA 1 (.s 33) (.s 34),none,[6,7],false⟩,
 ⟨(some 36),.load false 1 (.s 35),none,[8],false⟩,
 ⟨(some 37),.bin .neq .num (.s 31) (.s 36),none,[4,9],false⟩]
theorem i110d0t : tame i110d0 = true:=by kernel_rfl
def i110b0 : ICode :=
 (.seq (.seq (.reg [2,3,5] [sq 20 (.mv (.s 5)),
 sq 21 (.fldA 1 false 1 (.s 2)),
 sq 22 (.load false 1 (.s 21)),
 sq 23 (.len false (.s 22)),
 sq 24 (.bin .lss .num (.s 20) (.s 23))])
 (.cond (.s 24)
 .skip
 (.exit 0)))
 (.seq (.block 1
 (.seq (.draw [2,3,5] i110d0)
 (.cond (.s 37)
 (.seq (.reg [] [sa 4 (.mv (.c (.bool false)))])
 .ret)
 .skip)))
 (.reg [2,3,5] [sq 25 (.mv (.s 5)),
 sq 26 (.bin .add .num (.s 25) (.c (.int .i64 1))),
 sa 5 (.mv (.s 26))])))
def i110 : IFn:={ nparams:=2,ntmps:=38,results:=[.tmp 4],body :=
 (.seq (.reg [0,1] [sq 2 (.box 2 (.s 0)),
 sq 3 (.box 2 (.s 1)),
 sa 4 (.mv (.c (.bool false)))])
 (.seq (.seq (.reg [2,3] [sq 6 (.fldA 0 false 1 (.s 2)),
 sq 7 (.load false 1 (.s 6)),
 sq 8 (.fldA 0 false 1 (.s 3)),
 sq 9 (.load false 1 (.s 8)),
 sq 10 (.bin .neq .bool (.s 7) (.s 9)),
 sq 11 (.mv (.s 10)),
 ⟨(some 12),.fldA 1 false 1 (.s 2),(some (11,false)),[],false⟩,
 ⟨(some 13),.load false 1 (.s 12),(some (11,false)),[],false⟩,
 ⟨(some 14),.len false (.s 13),(some (11,false)),[],false⟩,
 ⟨(some 15),.fldA 1 false 1 (.s 3),(some (11,false)),[],false⟩,
 ⟨(some 16),.load false 1 (.s 15),(some (11,false)),[],false⟩,
 ⟨(some 17),.len false (.s 16),(some (11,false)),[],false⟩,
 ⟨(some 18),.bin .neq .num (.s 14) (.s 17),(some (11,false)),[],false⟩,
 sq 19 (.pick (.s 11) (.c (.bool true)) (.s 18))])
 (.cond (.s 19)
 (.seq (.reg [] [sa 4 (.mv (.c (.bool false)))])
 .ret)
 .skip))
 (.seq (.seq (.reg [2,3] [sa 5 (.mv (.c (.int .i64 0)))])
 (.block 0
 (.loop [2,3,5] i110b0)))
 (.seq (.reg [] [sa 4 (.mv (.c (.bool true)))])
 .ret)))) }
theorem tr110 : trF Tryz.prog h110 Tryz.f110 = some i110:=by kernel_rfl
def h111 : List (List Nat):=[[0],[0],[0,3],[3,9,10,11],[3,9,10,11],[3,9,10,11],[3,4,5,9,10,11],[3,9,10,11],[3]]
def i111b0 : ICode :=
 (.seq (.reg [3,9,10,11] [sq 12 (.bin .lss .num (.s 11) (.s 10))])
 (.seq (.cond (.s 12)
 .skip
 (.exit 0))
 (.seq (.block 1
 (.seq (.reg [3,9,10,11] [sq 13 (.mv (.s 11)),
 sq 14 (.idxA 1 (.s 9) (.s 11)),
 sq 15 (.load false 1 (.s 14)),
 sa 4 (.mv (.s 13)),
 sa 5 (.mv (.s 15))])
 (.reg [3,4,5,9,10,11] [sq 16 (.mv (.s 3)),
 sq 17 (.mv (.s 4)),
 sq 18 (.mv (.s 5)),
 sq 19 (.call (.c (.fn (.func 87) [] [])) [(.s 18)]),
 sq 20 (.idxA 2 (.s 16) (.s 17)),
 se (.store 2 (.s 20) (.s 19))])))
 (.reg [3,9,10,11] [sq 21 (.bin .add .num (.s 11) (.c (.int .i64 1))),
 sq 11 (.mv (.s 21))]))))
def i111 : IFn:={ nparams:=1,ntmps:=24,results:=[.tmp 2],body :=
 (.seq (.reg [0] [sa 2 (.mv (.c (.sl .nil [])))])
 (.seq (.reg [0] [sq 6 (.mv (.s 0)),
 sq 7 (.len false (.s 6)),
 sq 8 (.mksl 2 32 (.agg [(.bool false),(.sl .nil [])]) (.s 7) (.s 7)),
 sa 3 (.mv (.s 8))])
 (.seq (.seq (.reg [0,3] [sq 9 (.mv (.s 0)),
 sq 10 (.len false (.s 9)),
 sq 11 (.mv (.c (.int .i64 0)))])
 (.block 0
 (.loop [3,9,10,11] i111b0)))
 (.seq (.reg [3] [sq 22 (.mv (.s 3)),
 sq 23 (.call (.c (.fn (.func 130) [] [])) [(.s 22)]),
 sa 2 (.mv (.s 23))])
 .ret)))) }
theorem tr111 : trF Tryz.prog h111 Tryz.f111 = some i111:=by kernel_rfl
def h112 : List (List Nat):=[[0,1],[0,1],[],[0,1]]
def i112 : IFn:={ nparams:=2,ntmps:=17,results:=[.tmp 4],body :=
 (.seq (.reg [0,1] [sa 4 (.mv (.c (.sl .nil [])))])
 (.seq (.seq (.reg [0,1] [sq 5 (.mv (.s 1)),
 sq 6 (.bin .lss .num (.s 5) (.c (.int .i64 0))),
 sq 7 (.mv (.s 6)),
 ⟨(some 8),.mv (.s 1),(some (7,false)),[],false⟩,
 ⟨(some 9),.mv (.s 0),(some (7,false)),[],false⟩,
 ⟨(some 10),.len false (.s 9),(some (7,false)),[],false⟩,
 ⟨(some 11),.bin .geq .num (.s 8) (.s 10),(some (7,false)),[],false⟩,
 sq 12 (.pick (.s 7) (.c (.bool true)) (.s 11))])
 (.cond (.s 12)
 (.seq (.reg [] [sa 4 (.mv (.c (.sl .nil [])))])
 .ret)
 .skip))
 (.seq (.reg [0,1] [sq 13 (.mv (.s 0)),
 sq 14 (.mv (.s 1)),
 sq 15 (.idxA 1 (.s 13) (.s 14)),
 sq 16 (.load false 1 (.s 15)),
 sa 4 (.mv (.s 16))])
 .ret))) }
theorem tr112 : trF Tryz.prog h112 Tryz.f112 = some i112:=by kernel_rfl
def h113 : List (List Nat):=[[0,1],[0,1]]
def i113 : IFn:={ nparams:=2,ntmps:=8,results:=[.tmp 4],body :=
 (.seq (.reg [0,1] [sa 4 (.mv (.c (.sl .nil [])))])
 (.seq (.reg [0,1] [sq 5 (.mv (.s 0)),
 sq 6 (.mv (.s 1)),
 sq 7 (.call (.c (.fn (.func 144) [] [])) [(.s 5),(.s 6),(.c (.fn (.func 153) [] []))]),
 sa 4 (.mv (.s 7))])
 .ret)) }
theorem tr113 : trF Tryz.prog h113 Tryz.f113 = some i113:=by kernel_rfl
def h114 : List (List Nat):=[[0,1],[1,2]]
def i114 : IFn:={ nparams:=2,ntmps:=9,results:=[.tmp 4],body :=
 (.seq (.reg [0,1] [sq 2 (.box 1 (.s 0)),
 sa 4 (.mv (.c (.sl .nil [])))])
 (.seq (.reg [1,2] [sq 5 (.fldA 0 false 1 (.s 2)),
 sq 6 (.load false 1 (.s 5)),
 sq 7 (.mv (.s 1)),
 sq 8 (.call (.c (.fn (.func 95) [] [])) [(.s 6),(.s 7)]),
 sa 4 (.mv (.s 8))])
 .ret)) }
theorem tr114 : trF Tryz.prog h114 Tryz.f114 = some i114:=by kernel_rfl
def h115 : List (List Nat):=[[0],[0]]
def i115 : IFn:={ nparams:=1,ntmps:=7,results:=[.tmp 2],body :=
 (.seq (.reg [0] [sa 2 (.mv (.c (.int .i64 0)))])
 (.seq (.reg [0] [sq 3 (.mv (.s 0)),
 sq 4 (.call (.c (.fn (.func 130) [] [])) [(.s 3)]),
 sq 5 (.len false (.s 4)),
 sq 6 (.bin .sub .num (.s 5) (.c (.int .i64 1))),
 sa 2 (.mv (.s 6))])
 .ret)) }
theorem tr115 : trF Tryz.prog h115 Tryz.f115 = some i115:=by kernel_rfl
def h116 : List (List Nat):=[[0],[0],[0,3],[3,6,7,8],[3,6,7,8],[3,6,7,8],[3,5,6,7,8],[3,6,7,8],[3]]
def i116b0 : ICode :=
 (.seq (.reg [3,6,7,8] [sq 9 (.bin .lss .num (.s 8) (.s 7))])
 (.seq (.cond (.s 9)
 .skip
 (.exit 0))
 (.seq (.block 1
 (.seq (.reg [3,6,7,8] [sq 10 (.idxA 2 (.s 6) (.s 8)),
 sq 11 (.load true 2 (.s 10)),
 sq 5 (.alloc 2 (.agg [(.bool false),(.sl .nil [])])),
 se (.store 2 (.s 5) (.s 11))])
 (.reg [3,5,6,7,8] [sq 12 (.mv (.s 3)),
 sq 13 (.load true 2 (.s 5)),
 sq 14 (.call (.c (.fn (.func 119) [] [])) [(.s 13)]),
 sq 15 (.mx [(.s 12),(.s 14)]),
 sa 3 (.mv (.s 15))])))
 (.reg [3,6,7,8] [sq 16 (.bin .add .num (.s 8) (.c (.int .i64 1))),
 sq 8 (.mv (.s 16))]))))
def i116 : IFn:={ nparams:=1,ntmps:=18,results:=[.tmp 2],body :=
 (.seq (.reg [0] [sa 2 (.mv (.c (.int .i64 0)))])
 (.seq (.reg [0] [sa 3 (.mv (.c (.int .i64 0)))])
 (.seq (.seq (.reg [0,3] [sq 6 (.mv (.s 0)),
 sq 7 (.len false (.s 6)),
 sq 8 (.mv (.c (.int .i64 0)))])
 (.block 0
 (.loop [3,6,7,8] i116b0)))
 (.seq (.reg [3] [sq 17 (.mv (.s 3)),
 sa 2 (.mv (.s 17))])
 .ret)))) }
theorem tr116 : trF Tryz.prog h116 Tryz.f116 = some i116:=by kernel_rfl
def h117 : List (List Nat):=[[0,1],[0,1],[],[0,1],[0,1,5],[0,1,5],[0,1,5],[],[0,1,5],[]]
def i117d0 : List IStep:=[sq 17 (.mv (.s 0)),
 sq 18 (.mv (.s 5)),
 ⟨(some 19),.idxA 2 (.s 17) (.s 18),none,[0,1],false⟩,
 ⟨(some 20),.load true 2 (.s 19),none,[2],false⟩,
 sq 21 (.mv (.s 1)),
 sq 22 (.mv (.s 5)),
 ⟨(some 23),.idxA 2 (.s 21) (.s 22),none,[4,5],false⟩,
 ⟨(some 24),.load true 2 (.s 23),none,[6],false⟩,
 ⟨(some 25),.call (.c (.fn (.func 154) [] [])) [(.s 20),(.s 24)],none,[3,7],false⟩,
 ⟨(some 26),.bin .neq .num (.s 25) (.c (.int .i64 0)),none,[8],false⟩]
theorem i117d0t : tame i117d0 = true:=by kernel_rfl
def i117b0 : ICode :=
 (.seq (.seq (.reg [0,1,5] [sq 11 (.mv (.s 5)),
 sq 12 (.mv (.s 0)),
 sq 13 (.len false (.s 12)),
 sq 14 (.bin .lss .num (.s 11) (.s 13))])
 (.cond (.s 14)
 .skip
 (.exit 0)))
 (.seq (.block 1
 (.seq (.draw [0,1,5] i117d0)
 (.cond (.s 26)
 (.seq (.reg [] [sa 4 (.mv (.c (.bool false)))])
 .ret)
 .skip)))
 (.reg [0,1,5] [sq 15 (.mv (.s 5)),
 sq 16 (.bin .add .num (.s 15) (.c (.int .i64 1))),
 sa 5 (.mv (.s 16))])))
def i117 : IFn:={ nparams:=2,ntmps:=27,results:=[.tmp 4],body :=
 (.seq (.reg [0,1] [sa 4 (.mv (.c (.bool false)))])
 (.seq (.seq (.reg [0,1] [sq 6 (.mv (.s 0)),
 sq 7 (.len false (.s 6)),
 sq 8 (.mv (.s 1)),
 sq 9 (.len false (.s 8)),
 sq 10 (.bin .neq .num (.s 7) (.s 9))])
 (.cond (.s 10)
 (.seq (.reg [] [sa 4 (.mv (.c (.bool false)))])
 .ret)
 .skip))
 (.seq (.seq (.reg [0,1] [sa 5 (.mv (.c (.int .i64 0)))])
 (.block 0
 (.loop [0,1,5] i117b0)))
 (.seq (.reg [] [sa 4 (.mv (.c (.bool true)))])
 .ret)))) }
theorem tr117 : trF Tryz.prog h117 Tryz.f117 = some i117:=by kernel_rfl
def h118 : List (List Nat):=[[0],[0,2],[0,2,3],[0,2,3],[0,2,3],[0,2,3],[2],[0,2,3],[0,2,3,4],[2,4,30,31,32],[2,4,30,31,32],[2,4,30,31,32],[2,4,6,30,31,32],[2,4,30,31,32],[2,4]]
def i118b0 : ICode :=
 (.seq (.seq (.reg [0,2,3] [sq 10 (.mv (.s 3)),
 sq 11 (.bin .geq .num (.s 10) (.c (.int .i64 0))),
 sq 12 (.mv (.s 11)),
 ⟨(some 13),.mv (.s 0),(some (12,true)),[],false⟩,
 ⟨(some 14),.mv (.s 3),(some (12,true)),[],false⟩,
 ⟨(some 15),.idxA 1 (.s 13) (.s 14),(some (12,true)),[],false⟩,
 ⟨(some 16),.load false 1 (.s 15),(some (12,true)),[],false⟩,
 ⟨(some 17),.call (.c (.fn (.func 115) [] [])) [(.s 16)],(some (12,true)),[],false⟩,
 ⟨(some 18),.bin .lss .num (.s 17) (.c (.int .i64 0)),(some (12,true)),[],false⟩,
 sq 19 (.pick (.s 12) (.s 18) (.c (.bool false)))])
 (.cond (.s 19)
 .skip
 (.exit 0)))
 (.block 1
 (.reg [0,2,3] [sq 20 (.mv (.s 3)),
 sq 21 (.bin .sub .num (.s 20) (.c (.int .i64 1))),
 sa 3 (.mv (.s 21))])))
def i118d0 : List IStep:=[sq 36 (.fldA 1 false 1 (.s 4)),
 ⟨(some 37),.load false 1 (.s 36),none,[0],false⟩,
 sq 38 (.mv (.s 6)),
 ⟨(some 39),.call (.c (.fn (.func 115) [] [])) [(.s 38)],none,[2],false⟩,
 ⟨(some 40),.mx [(.s 37),(.s 39)],none,[1,3],false⟩,
 sq 41 (.fldA 2 false 1 (.s 4)),
 ⟨(some 42),.load false 1 (.s 41),none,[5],false⟩,
 sq 43 (.mv (.s 6)),
 ⟨(some 44),.call (.c (.fn (.func 116) [] [])) [(.s 43)],none,[7,3],false⟩,
 ⟨(some 45),.mx [(.s 42),(.s 44)],none,[6,8],false⟩,
 ⟨(some 46),.fldA 1 false 1 (.s 4),none,[0,1,2,3,4,5,6],false⟩,
 ⟨none,.store 1 (.s 46) (.s 40),none,[10,4,8,0,1,2,3,5,6],false⟩,
 ⟨(some 47),.fldA 2 false 1 (.s 4),none,[0,1,2,3,4,5,6,7,8,9,10,11],false⟩,
 ⟨none,.store 1 (.s 47) (.s 45),none,[12,9,11,0,1,2,3,4,5,6,7,8,10],false⟩]
theorem i118d0t : tame i118d0 = false:=by kernel_rfl
def i118b1 : ICode :=
 (.seq (.reg [2,4,30,31,32] [sq 33 (.bin .lss .num (.s 32) (.s 31))])
 (.seq (.cond (.s 33)
 .skip
 (.exit 2))
 (.seq (.block 3
 (.seq (.reg [2,4,30,31,32] [sq 34 (.idxA 1 (.s 30) (.s 32)),
 sq 35 (.load false 1 (.s 34)),
 sa 6 (.mv (.s 35))])
 (.draw [2,4,6,30,31,32] i118d0)))
 (.reg [2,4,30,31,32] [sq 48 (.bin .add .num (.s 32) (.c (.int .i64 1))),
 sq 32 (.mv (.s 48))]))))
def i118 : IFn:={ nparams:=1,ntmps:=50,results:=[.cell 2 true 3],body :=
 (.seq (.reg [0] [sq 2 (.alloc 3 (.agg [(.int .i64 0),(.int .i64 0),(.int .i64 0)]))])
 (.seq (.reg [0,2] [sq 7 (.mv (.s 0)),
 sq 8 (.len false (.s 7)),
 sq 9 (.bin .sub .num (.s 8) (.c (.int .i64 1))),
 sa 3 (.mv (.s 9))])
 (.seq (.block 0
 (.loop [0,2,3] i118b0))
 (.seq (.seq (.reg [0,2,3] [sq 22 (.mv (.s 3)),
 sq 23 (.bin .lss .num (.s 22) (.c (.int .i64 0)))])
 (.cond (.s 23)
 (.seq (.reg [2] [sq 24 (.build [(.int .i64 0),(.int .i64 0),(.int .i64 0)] []),
 se (.store 3 (.s 2) (.s 24))])
 .ret)
 .skip))
 (.seq (.reg [0,2,3] [sq 25 (.mv (.s 3)),
 sq 26 (.build [(.int .i64 0),(.int .i64 0),(.int .i64 0)] [(0,1,(.s 25))]),
 sq 4 (.alloc 3 (.agg [(.int .i64 0),(.int .i64 0),(.int .i64 0)])),
 se (.store 3 (.s 4) (.s 26))])
 (.seq (.seq (.reg [0,2,3,4] [sq 27 (.mv (.s 0)),
 sq 28 (.mv (.s 3)),
 sq 29 (.bin .add .num (.s 28) (.c (.int .i64 1))),
 sq 30 (.slice 1 (.s 27) none (some (.s 29)) none),
 sq 31 (.len false (.s 30)),
 sq 32 (.mv (.c (.int .i64 0)))])
 (.block 2
 (.loop [2,4,30,31,32] i118b1)))
 (.seq (.reg [2,4] [sq 49 (.load true 3 (.s 4)),
 se (.store 3 (.s 2) (.s 49))])
 .ret))))))) }
theorem tr118 : trF Tryz.prog h118 Tryz.f118 = some i118:=by kernel_rfl
def h119 : List (List Nat):=[[0],[1],[3],[],[3]]
def i119 : IFn:={ nparams:=1,ntmps:=21,results:=[.tmp 2],body :=
 (.seq (.reg [0] [sq 1 (.box 2 (.s 0)),
 sa 2 (.mv (.c (.int .i64 0)))])
 (.seq (.reg [1] [sq 4 (.load true 2 (.s 1)),
 sq 5 (.call (.c (.fn (.func 129) [] [])) [(.s 4)]),
 sa 3 (.mv (.s 5))])
 (.seq (.seq (.reg [3] [sq 6 (.mv (.s 3)),
 sq 7 (.len false (.s 6)),
 sq 8 (.bin .eql .num (.s 7) (.c (.int .i64 0)))])
 (.cond (.s 8)
 (.seq (.reg [] [sa 2 (.mv (.c (.int .i64 0)))])
 .ret)
 .skip))
 (.seq (.reg [3] [sq 9 (.mv (.s 3)),
 sq 10 (.len false (.s 9)),
 sq 11 (.bin .sub .num (.s 10) (.c (.int .i64 1))),
 sq 12 (.bin .mul .num (.c (.int .i64 32)) (.s 11)),
 sq 13 (.mv (.s 3)),
 sq 14 (.mv (.s 3)),
 sq 15 (.len false (.s 14)),
 sq 16 (.bin .sub .num (.s 15) (.c (.int .i64 1))),
 sq 17 (.idxA 1 (.s 13) (.s 16)),
 sq 18 (.load false 1 (.s 17)),
 sq 19 (.call (.c (.fn (.func 155) [] [])) [(.s 18)]),
 sq 20 (.bin .add .num (.s 12) (.s 19)),
 sa 2 (.mv (.s 20))])
 .ret)))) }
theorem tr119 : trF Tryz.prog h119 Tryz.f119 = some i119:=by kernel_rfl
def h120 : List (List Nat):=[[0],[0],[0,3],[3,6,7,8],[3,6,7,8],[3,6,7,8],[3,5,6,7,8],[],[3,5,6,7,8],[3,6,7,8],[3]]
def i120b0 : ICode :=
 (.seq (.reg [3,6,7,8] [sq 9 (.bin .lss .num (.s 8) (.s 7))])
 (.seq (.cond (.s 9)
 .skip
 (.exit 0))
 (.seq (.block 1
 (.seq (.reg [3,6,7,8] [sq 10 (.idxA 1 (.s 6) (.s 8)),
 sq 11 (.load false 1 (.s 10)),
 sa 5 (.mv (.s 11))])
 (.seq (.seq (.reg [3,5,6,7,8] [sq 12 (.mv (.s 5)),
 sq 13 (.mv (.s 3)),
 sq 14 (.bin .sub .num (.c (.int .i64 4611686018427387904)) (.s 13)),
 sq 15 (.bin .gtr .num (.s 12) (.s 14))])
 (.cond (.s 15)
 (.seq (.reg [] [sa 2 (.mv (.c (.int .i64 4611686018427387904)))])
 .ret)
 .skip))
 (.reg [3,5,6,7,8] [sq 16 (.mv (.s 3)),
 sq 17 (.mv (.s 5)),
 sq 18 (.bin .add .num (.s 16) (.s 17)),
 sa 3 (.mv (.s 18))]))))
 (.reg [3,6,7,8] [sq 19 (.bin .add .num (.s 8) (.c (.int .i64 1))),
 sq 8 (.mv (.s 19))]))))
def i120 : IFn:={ nparams:=1,ntmps:=21,results:=[.tmp 2],body :=
 (.seq (.reg [0] [sa 2 (.mv (.c (.int .i64 0)))])
 (.seq (.reg [0] [sa 3 (.mv (.c (.int .i64 0)))])
 (.seq (.seq (.reg [0,3] [sq 6 (.mv (.s 0)),
 sq 7 (.len false (.s 6)),
 sq 8 (.mv (.c (.int .i64 0)))])
 (.block 0
 (.loop [3,6,7,8] i120b0)))
 (.seq (.reg [3] [sq 20 (.mv (.s 3)),
 sa 2 (.mv (.s 20))])
 .ret)))) }
theorem tr120 : trF Tryz.prog h120 Tryz.f120 = some i120:=by kernel_rfl
def h121 : List (List Nat):=[[0],[0],[0,3],[0,3,8,9,10],[0,3,8,9,10],[0,3,8,9,10],[0,3,5,8,9,10],[],[0,3,8,9,10],[0,3],[3,17,18,19],[3,17,18,19],[3,17,18,19],[3,7,17,18,19],[],[3,7,17,18,19],[3,17,18,19],[3]]
def i121b0 : ICode :=
 (.seq (.reg [0,3,8,9,10] [sq 11 (.bin .lss .num (.s 10) (.s 9))])
 (.seq (.cond (.s 11)
 .skip
 (.exit 0))
 (.seq (.block 1
 (.seq (.reg [0,3,8,9,10] [sq 12 (.idxA 1 (.s 8) (.s 10)),
 sq 13 (.load false 1 (.s 12)),
 sa 5 (.mv (.s 13))])
 (.seq (.reg [0,3,5,8,9,10] [sq 14 (.mv (.s 5)),
 sq 15 (.bin .eql .num (.s 14) (.c (.int .i64 0)))])
 (.cond (.s 15)
 (.seq (.reg [] [sa 2 (.mv (.c (.int .i64 0)))])
 .ret)
 .skip))))
 (.reg [0,3,8,9,10] [sq 16 (.bin .add .num (.s 10) (.c (.int .i64 1))),
 sq 10 (.mv (.s 16))]))))
def i121b1 : ICode :=
 (.seq (.reg [3,17,18,19] [sq 20 (.bin .lss .num (.s 19) (.s 18))])
 (.seq (.cond (.s 20)
 .skip
 (.exit 2))
 (.seq (.block 3
 (.seq (.reg [3,17,18,19] [sq 21 (.idxA 1 (.s 17) (.s 19)),
 sq 22 (.load false 1 (.s 21)),
 sa 7 (.mv (.s 22))])
 (.seq (.seq (.reg [3,7,17,18,19] [sq 23 (.mv (.s 3)),
 sq 24 (.mv (.s 7)),
 sq 25 (.bin .quo .num (.c (.int .i64 4611686018427387904)) (.s 24)),
 sq 26 (.bin .gtr .num (.s 23) (.s 25))])
 (.cond (.s 26)
 (.seq (.reg [] [sa 2 (.mv (.c (.int .i64 4611686018427387904)))])
 .ret)
 .skip))
 (.reg [3,7,17,18,19] [sq 27 (.mv (.s 3)),
 sq 28 (.mv (.s 7)),
 sq 29 (.bin .mul .num (.s 27) (.s 28)),
 sa 3 (.mv (.s 29))]))))
 (.reg [3,17,18,19] [sq 30 (.bin .add .num (.s 19) (.c (.int .i64 1))),
 sq 19 (.mv (.s 30))]))))
def i121 : IFn:={ nparams:=1,ntmps:=32,results:=[.tmp 2],body :=
 (.seq (.reg [0] [sa 2 (.mv (.c (.int .i64 0)))])
 (.seq (.reg [0] [sa 3 (.mv (.c (.int .i64 1)))])
 (.seq (.seq (.reg [0,3] [sq 8 (.mv (.s 0)),
 sq 9 (.len false (.s 8)),
 sq 10 (.mv (.c (.int .i64 0)))])
 (.block 0
 (.loop [0,3,8,9,10] i121b0)))
 (.seq (.seq (.reg [0,3] [sq 17 (.mv (.s 0)),
 sq 18 (.len false (.s 17)),
 sq 19 (.mv (.c (.int .i64 0)))])
 (.block 2
 (.loop [3,17,18,19] i121b1)))
 (.seq (.reg [3] [sq 31 (.mv (.s 3)),
 sa 2 (.mv (.s 31))])
 .ret))))) }
theorem tr121 : trF Tryz.prog h121 Tryz.f121 = some i121:=by kernel_rfl
def h122 : List (List Nat):=[[0],[0],[0,3],[3,6,7,8],[3,6,7,8],[3,6,7,8],[3,5,6,7,8],[3,6,7,8],[3]]
def i122b0 : ICode :=
 (.seq (.reg [3,6,7,8] [sq 9 (.bin .lss .num (.s 8) (.s 7))])
 (.seq (.cond (.s 9)
 .skip
 (.exit 0))
 (.seq (.block 1
 (.seq (.reg [3,6,7,8] [sq 10 (.idxA 1 (.s 6) (.s 8)),
 sq 11 (.load false 1 (.s 10)),
 sa 5 (.mv (.s 11))])
 (.reg [3,5,6,7,8] [sq 12 (.mv (.s 3)),
 sq 13 (.mv (.s 5)),
 sq 14 (.mx [(.s 13),(.c (.int .i64 1))]),
 sq 15 (.bsl 1 (.int .i64 0) 2 [(0,(.s 12)),(1,(.s 14))]),
 sq 16 (.call (.c (.fn (.func 121) [] [])) [(.s 15)]),
 sa 3 (.mv (.s 16))])))
 (.reg [3,6,7,8] [sq 17 (.bin .add .num (.s 8) (.c (.int .i64 1))),
 sq 8 (.mv (.s 17))]))))
def i122 : IFn:={ nparams:=1,ntmps:=19,results:=[.tmp 2],body :=
 (.seq (.reg [0] [sa 2 (.mv (.c (.int .i64 0)))])
 (.seq (.reg [0] [sa 3 (.mv (.c (.int .i64 1)))])
 (.seq (.seq (.reg [0,3] [sq 6 (.mv (.s 0)),
 sq 7 (.len false (.s 6)),
 sq 8 (.mv (.c (.int .i64 0)))])
 (.block 0
 (.loop [3,6,7,8] i122b0)))
 (.seq (.reg [3] [sq 18 (.mv (.s 3)),
 sa 2 (.mv (.s 18))])
 .ret)))) }
theorem tr122 : trF Tryz.prog h122 Tryz.f122 = some i122:=by kernel_rfl
def h123 : List (List Nat):=[[0,1,2],[0,1,2],[0,2,7]]
def i123 : IFn:={ nparams:=3,ntmps:=18,results:=[.tmp 6],body :=
 (.seq (.reg [0,1,2] [sa 6 (.mv (.c (.sl .nil [])))])
 (.seq (.reg [0,1,2] [sq 8 (.bsl 1 (.sl .nil []) 1 [(0,(.c (.sl .nil [])))]),
 sq 9 (.mv (.s 0)),
 sq 10 (.mv (.s 1)),
 sq 11 (.call (.c (.fn (.func 39) [] [])) [(.s 9),(.s 10)]),
 sq 12 (.app 1 24 (.s 8) (.s 11)),
 sa 7 (.mv (.s 12))])
 (.seq (.reg [0,2,7] [sq 13 (.mv (.s 7)),
 sq 14 (.mv (.s 0)),
 sq 15 (.mv (.s 2)),
 sq 16 (.call (.c (.fn (.func 39) [] [])) [(.s 14),(.s 15)]),
 sq 17 (.call (.c (.fn (.func 36) [] [])) [(.s 13),(.s 16)]),
 sa 6 (.mv (.s 17))])
 .ret))) }
theorem tr123 : trF Tryz.prog h123 Tryz.f123 = some i123:=by kernel_rfl
def h124 : List (List Nat):=[[0,1],[0,1],[],[0,1]]
def i124 : IFn:={ nparams:=2,ntmps:=12,results:=[.tmp 4],body :=
 (.seq (.reg [0,1] [sa 4 (.mv (.c (.int .i64 0)))])
 (.seq (.seq (.reg [0,1] [sq 5 (.mv (.s 0)),
 sq 6 (.mv (.s 1)),
 sq 7 (.bin .sub .num (.c (.int .i64 4611686018427387904)) (.s 6)),
 sq 8 (.bin .gtr .num (.s 5) (.s 7))])
 (.cond (.s 8)
 (.seq (.reg [] [sa 4 (.mv (.c (.int .i64 4611686018427387904)))])
 .ret)
 .skip))
 (.seq (.reg [0,1] [sq 9 (.mv (.s 0)),
 sq 10 (.mv (.s 1)),
 sq 11 (.bin .add .num (.s 9) (.s 10)),
 sa 4 (.mv (.s 11))])
 .ret))) }
theorem tr124 : trF Tryz.prog h124 Tryz.f124 = some i124:=by kernel_rfl
def h125 : List (List Nat):=[[0,1],[2,3,4],[4,5,6],[4,5,6],[4,5,6],[4,6,8],[4,5]]
def i125d0 : List IStep:=[sq 9 (.load true 2 (.s 2)),
 ⟨(some 10),.call (.c (.fn (.func 129) [] [])) [(.s 9)],none,[0],false⟩,
 sq 11 (.load true 2 (.s 3)),
 ⟨(some 12),.call (.c (.fn (.func 129) [] [])) [(.s 11)],none,[2,1],false⟩,
 ⟨(some 5),.mv (.s 10),none,[1,3,0],true⟩,
 ⟨(some 6),.mv (.s 12),none,[3,4,0,1,2],true⟩]
theorem i125d0t : tame i125d0 = true:=by kernel_rfl
def i125b0 : ICode :=
 (.seq (.seq (.reg [4,5,6] [sq 13 (.mv (.s 6)),
 sq 14 (.len false (.s 13)),
 sq 15 (.bin .gtr .num (.s 14) (.c (.int .i64 0)))])
 (.cond (.s 15)
 .skip
 (.exit 0)))
 (.block 1
 (.seq (.reg [4,5,6] [sq 17 (.mv (.s 5)),
 sq 18 (.mv (.s 6)),
 sq 19 (.call (.c (.fn (.func 156) [] [])) [(.s 17),(.s 18)]),
 sq 16 (.mv (.s 19)),
 sq 20 (.extr (.s 16) 0),
 sq 21 (.extr (.s 16) 1),
 sa 7 (.mv (.s 20)),
 sa 8 (.mv (.s 21))])
 (.reg [4,6,8] [sq 22 (.mv (.s 6)),
 sq 23 (.mv (.s 8)),
 sa 5 (.mv (.s 22)),
 sa 6 (.mv (.s 23))]))))
def i125 : IFn:={ nparams:=2,ntmps:=26,results:=[.cell 4 true 2],body :=
 (.seq (.reg [0,1] [sq 2 (.box 2 (.s 0)),
 sq 3 (.box 2 (.s 1)),
 sq 4 (.alloc 2 (.agg [(.bool false),(.sl .nil [])]))])
 (.seq (.draw [2,3,4] i125d0)
 (.seq (.block 0
 (.loop [4,5,6] i125b0))
 (.seq (.reg [4,5] [sq 24 (.mv (.s 5)),
 sq 25 (.call (.c (.fn (.func 134) [] [])) [(.c (.bool false)),(.s 24)]),
 se (.store 2 (.s 4) (.s 25))])
 .ret)))) }
theorem tr125 : trF Tryz.prog h125 Tryz.f125 = some i125:=by kernel_rfl
def h126 : List (List Nat):=[[0],[0,2],[0,2,3],[2,3,7,8,9],[2,3,7,8,9],[2,3,7,8,9],[2,3,5,7,8,9],[2,3,7,8,9],[2,3]]
def i126b0 : ICode :=
 (.seq (.reg [2,3,7,8,9] [sq 10 (.bin .lss .num (.s 9) (.s 8))])
 (.seq (.cond (.s 10)
 .skip
 (.exit 0))
 (.seq (.block 1
 (.seq (.reg [2,3,7,8,9] [sq 11 (.idxA 2 (.s 7) (.s 9)),
 sq 12 (.load true 2 (.s 11)),
 sq 5 (.alloc 2 (.agg [(.bool false),(.sl .nil [])])),
 se (.store 2 (.s 5) (.s 12))])
 (.reg [2,3,5,7,8,9] [sq 13 (.load true 2 (.s 3)),
 sq 14 (.load true 2 (.s 5)),
 sq 15 (.call (.c (.fn (.func 125) [] [])) [(.s 13),(.s 14)]),
 se (.store 2 (.s 3) (.s 15))])))
 (.reg [2,3,7,8,9] [sq 16 (.bin .add .num (.s 9) (.c (.int .i64 1))),
 sq 9 (.mv (.s 16))]))))
def i126 : IFn:={ nparams:=1,ntmps:=18,results:=[.cell 2 true 2],body :=
 (.seq (.reg [0] [sq 2 (.alloc 2 (.agg [(.bool false),(.sl .nil [])]))])
 (.seq (.reg [0,2] [sq 6 (.build [(.bool false),(.sl .nil [])] []),
 sq 3 (.alloc 2 (.agg [(.bool false),(.sl .nil [])])),
 se (.store 2 (.s 3) (.s 6))])
 (.seq (.seq (.reg [0,2,3] [sq 7 (.mv (.s 0)),
 sq 8 (.len false (.s 7)),
 sq 9 (.mv (.c (.int .i64 0)))])
 (.block 0
 (.loop [2,3,7,8,9] i126b0)))
 (.seq (.reg [2,3] [sq 17 (.load true 2 (.s 3)),
 se (.store 2 (.s 2) (.s 17))])
 .ret)))) }
theorem tr126 : trF Tryz.prog h126 Tryz.f126 = some i126:=by kernel_rfl
def h127 : List (List Nat):=[[0],[0],[0],[],[0],[0,3],[0,3],[0,3]]
def i127 : IFn:={ nparams:=1,ntmps:=24,results:=[.tmp 2],body :=
 (.seq (.reg [0] [sa 2 (.mv (.c (.sl .nil [])))])
 (.seq (.reg [0] [sq 4 (.mv (.s 0)),
 sq 5 (.call (.c (.fn (.func 130) [] [])) [(.s 4)]),
 sa 0 (.mv (.s 5))])
 (.seq (.seq (.reg [0] [sq 6 (.mv (.s 0)),
 sq 7 (.len false (.s 6)),
 sq 8 (.bin .eql .num (.s 7) (.c (.int .i64 0)))])
 (.cond (.s 8)
 (.seq (.reg [] [sa 2 (.mv (.c (.sl .nil [])))])
 .ret)
 .skip))
 (.seq (.reg [0] [sq 9 (.mv (.s 0)),
 sq 10 (.call (.c (.fn (.func 126) [] [])) [(.s 9)]),
 sq 3 (.alloc 2 (.agg [(.bool false),(.sl .nil [])])),
 se (.store 2 (.s 3) (.s 10))])
 (.seq (.seq (.reg [0,3] [sq 11 (.mv (.s 0)),
 sq 12 (.mv (.s 0)),
 sq 13 (.len false (.s 12)),
 sq 14 (.bin .sub .num (.s 13) (.c (.int .i64 1))),
 sq 15 (.idxA 2 (.s 11) (.s 14)),
 sq 16 (.load true 2 (.s 15)),
 sq 17 (.call (.c (.fn (.func 84) [] [])) [(.s 16)]),
 sq 18 (.bin .lss .num (.s 17) (.c (.int .i64 0)))])
 (.cond (.s 18)
 (.reg [0,3] [sq 19 (.load true 2 (.s 3)),
 sq 20 (.call (.c (.fn (.func 157) [] [])) [(.s 19)]),
 se (.store 2 (.s 3) (.s 20))])
 .skip))
 (.seq (.reg [0,3] [sq 21 (.mv (.s 0)),
 sq 22 (.load true 2 (.s 3)),
 sq 23 (.call (.c (.fn (.func 158) [] [])) [(.s 21),(.s 22)]),
 sa 2 (.mv (.s 23))])
 .ret)))))) }
theorem tr127 : trF Tryz.prog h127 Tryz.f127 = some i127:=by kernel_rfl
def h128 : List (List Nat):=[[0,1],[0,1],[0,1,5],[0,1,5,6],[0,1,5,6,7],[0,1,5,6,7,8],[0,1,5,6,7,8],[0,1,5,6,7,8,9,10],[0,1,5,6,7,8,9,10],[0,1,5,6,7,8,11],[],[0,1,5,6,7,8,11],[0,1,5,6,7,8,11],[0,1,5,8,11],[0,1,5,6,7,8,11],[0,1,5,6,7,8,11,12],[0,1,5,6,7,8,11,12,87,88],[0,1,5,6,7,8,11,12,87,88],[0,1,5,6,7,8,11,12,87,88],[0,1,5,6,7,8,11,12,14,87,88],[0,1,5,6,7,8,11,12,87,88],[0,1,5,6,7,8,11],[0,1,5,6,7,8],[0,1,5,6,7,8,15],[0,1,5,6,7,8,15,17],[0,1,5,6,7,8,15,17,19],[15],[0,1,5,6,7,8]]
def i128b0 : ICode :=
 (.seq (.reg [0,1,5,6,7,8,11,12,87,88] [sq 89 (.bin .lss .num (.s 88) (.s 87))])
 (.seq (.cond (.s 89)
 .skip
 (.exit 3))
 (.seq (.block 4
 (.seq (.reg [0,1,5,6,7,8,11,12,87,88] [sq 90 (.mv (.s 88)),
 sa 14 (.mv (.s 90))])
 (.reg [0,1,5,6,7,8,11,12,14,87,88] [sq 91 (.mv (.s 11)),
 sq 92 (.mv (.s 14)),
 sq 93 (.mv (.s 11)),
 sq 94 (.mv (.s 14)),
 sq 95 (.idxA 1 (.s 93) (.s 94)),
 sq 96 (.load false 1 (.s 95)),
 sq 97 (.mv (.s 12)),
 sq 98 (.mv (.s 8)),
 sq 99 (.call (.c (.fn (.func 163) [] [])) [(.s 96),(.s 97),(.s 98)]),
 sq 100 (.idxA 1 (.s 91) (.s 92)),
 se (.store 1 (.s 100) (.s 99))])))
 (.reg [0,1,5,6,7,8,11,12,87,88] [sq 101 (.bin .add .num (.s 88) (.c (.int .i64 1))),
 sq 88 (.mv (.s 101))]))))
def i128b1 : ICode :=
 (.seq (.block 1
 (.seq (.reg [0,1,5,6,7,8] [sq 35 (.mv (.s 0)),
 sq 36 (.mv (.s 8)),
 sq 37 (.call (.c (.fn (.func 160) [] [])) [(.s 35),(.s 36)]),
 sq 38 (.mv (.s 1)),
 sq 39 (.mv (.s 8)),
 sq 40 (.call (.c (.fn (.func 160) [] [])) [(.s 38),(.s 39)]),
 sa 9 (.mv (.s 37)),
 sa 10 (.mv (.s 40))])
 (.seq (.seq (.reg [0,1,5,6,7,8,9,10] [sq 41 (.mv (.s 9)),
 sq 42 (.len false (.s 41)),
 sq 43 (.mv (.s 0)),
 sq 44 (.len false (.s 43)),
 sq 45 (.bin .lss .num (.s 42) (.s 44)),
 sq 46 (.mv (.s 45)),
 ⟨(some 47),.mv (.s 10),(some (46,false)),[],false⟩,
 ⟨(some 48),.len false (.s 47),(some (46,false)),[],false⟩,
 ⟨(some 49),.mv (.s 1),(some (46,false)),[],false⟩,
 ⟨(some 50),.len false (.s 49),(some (46,false)),[],false⟩,
 ⟨(some 51),.bin .lss .num (.s 48) (.s 50),(some (46,false)),[],false⟩,
 sq 52 (.pick (.s 46) (.c (.bool true)) (.s 51))])
 (.cond (.s 52)
 (.exit 1)
 .skip))
 (.seq (.reg [0,1,5,6,7,8,9,10] [sq 53 (.mv (.s 9)),
 sq 54 (.mv (.s 10)),
 sq 55 (.mv (.s 8)),
 sq 56 (.call (.c (.fn (.func 161) [] [])) [(.s 53),(.s 54),(.s 55)]),
 sa 11 (.mv (.s 56))])
 (.seq (.block 2
 (.seq (.reg [0,1,5,6,7,8,11] [sq 58 (.mv (.s 11)),
 sq 59 (.len false (.s 58)),
 sq 60 (.bin .eql .num (.s 59) (.c (.int .i64 1))),
 sa 57 (.mv (.s 60))])
 (.cond (.s 57)
 (.seq (.reg [] [sq 61 (.bsl 1 (.int .i64 0) 1 [(0,(.c (.int .i64 1)))]),
 sq 62 (.call (.c (.fn (.func 111) [] [])) [(.s 61)]),
 sa 4 (.mv (.s 62))])
 .ret)
 (.seq (.reg [0,1,5,6,7,8,11] [sq 64 (.mv (.s 11)),
 sq 65 (.len false (.s 64)),
 sq 66 (.bin .sub .num (.s 65) (.c (.int .i64 1))),
 sq 67 (.mv (.s 6)),
 sq 68 (.bin .gtr .num (.s 66) (.s 67)),
 sa 63 (.mv (.s 68))])
 (.cond (.s 63)
 (.exit 1)
 (.seq (.reg [0,1,5,6,7,8,11] [sq 70 (.mv (.s 11)),
 sq 71 (.len false (.s 70)),
 sq 72 (.bin .sub .num (.s 71) (.c (.int .i64 1))),
 sq 73 (.mv (.s 6)),
 sq 74 (.bin .lss .num (.s 72) (.s 73)),
 sa 69 (.mv (.s 74))])
 (.cond (.s 69)
 (.reg [0,1,5,8,11] [sq 75 (.mv (.s 11)),
 sq 76 (.len false (.s 75)),
 sq 77 (.bin .sub .num (.s 76) (.c (.int .i64 1))),
 sq 78 (.build [(.bool false),(.sl .nil []),(.sl .nil [])] []),
 sq 79 (.box 3 (.s 78)),
 sa 6 (.mv (.s 77)),
 sa 7 (.mv (.s 79))])
 .skip)))))))
 (.seq (.reg [0,1,5,6,7,8,11] [sq 81 (.load true 2 (.s 5)),
 sq 82 (.mv (.s 8)),
 sq 83 (.call (.c (.fn (.func 162) [] [])) [(.s 81),(.s 82)]),
 sq 80 (.mv (.s 83)),
 sq 84 (.extr (.s 80) 0),
 sq 85 (.extr (.s 80) 1),
 sa 12 (.mv (.s 84)),
 sa 13 (.mv (.s 85))])
 (.seq (.seq (.reg [0,1,5,6,7,8,11,12] [sq 86 (.mv (.s 11)),
 sq 87 (.len false (.s 86)),
 sq 88 (.mv (.c (.int .i64 0)))])
 (.block 3
 (.loop [0,1,5,6,7,8,11,12,87,88] i128b0)))
 (.seq (.seq (.reg [0,1,5,6,7,8,11] [sq 102 (.mv (.s 7)),
 sq 103 (.mv (.s 11)),
 sq 104 (.mv (.s 8)),
 sq 105 (.call (.c (.fn (.func 164) [] [])) [(.s 102),(.s 103),(.s 104)]),
 sq 106 (.un .not (.s 105))])
 (.cond (.s 106)
 (.exit 1)
 .skip))
 (.seq (.reg [0,1,5,6,7,8] [sq 107 (.mv (.s 7)),
 sq 108 (.nilc (.s 107)),
 sq 109 (.fldA 2 false 1 (.s 108)),
 sq 110 (.load false 1 (.s 109)),
 sq 111 (.call (.c (.fn (.func 127) [] [])) [(.s 110)]),
 sa 15 (.mv (.s 111))])
 (.seq (.reg [0,1,5,6,7,8,15] [sq 113 (.mv (.s 0)),
 sq 114 (.mv (.s 15)),
 sq 115 (.call (.c (.fn (.func 135) [] [])) [(.s 113),(.s 114)]),
 sq 112 (.mv (.s 115)),
 sq 116 (.extr (.s 112) 0),
 sq 117 (.extr (.s 112) 1),
 sa 16 (.mv (.s 116)),
 sa 17 (.mv (.s 117))])
 (.seq (.reg [0,1,5,6,7,8,15,17] [sq 119 (.mv (.s 1)),
 sq 120 (.mv (.s 15)),
 sq 121 (.call (.c (.fn (.func 135) [] [])) [(.s 119),(.s 120)]),
 sq 118 (.mv (.s 121)),
 sq 122 (.extr (.s 118) 0),
 sq 123 (.extr (.s 118) 1),
 sa 18 (.mv (.s 122)),
 sa 19 (.mv (.s 123))])
 (.seq (.reg [0,1,5,6,7,8,15,17,19] [sq 124 (.mv (.s 17)),
 sq 125 (.mv (.s 124)),
 ⟨(some 126),.mv (.s 19),(some (125,true)),[],false⟩,
 sq 127 (.pick (.s 125) (.s 126) (.c (.bool false)))])
 (.cond (.s 127)
 (.seq (.reg [15] [sq 128 (.mv (.s 15)),
 sa 4 (.mv (.s 128))])
 .ret)
 .skip)))))))))))))
 (.reg [0,1,5,6,7,8] [sq 33 (.mv (.s 8)),
 sq 34 (.call (.c (.fn (.func 159) [] [])) [(.s 33)]),
 sa 8 (.mv (.s 34))]))
def i128 : IFn:={ nparams:=2,ntmps:=129,results:=[.tmp 4],body :=
 (.seq (.reg [0,1] [sa 4 (.mv (.c (.sl .nil [])))])
 (.seq (.reg [0,1] [sq 20 (.mv (.s 0)),
 sq 21 (.call (.c (.fn (.func 85) [] [])) [(.s 20)]),
 sq 22 (.mv (.s 1)),
 sq 23 (.call (.c (.fn (.func 85) [] [])) [(.s 22)]),
 sq 24 (.call (.c (.fn (.func 125) [] [])) [(.s 21),(.s 23)]),
 sq 5 (.alloc 2 (.agg [(.bool false),(.sl .nil [])])),
 se (.store 2 (.s 5) (.s 24))])
 (.seq (.reg [0,1,5] [sq 25 (.mv (.s 0)),
 sq 26 (.len false (.s 25)),
 sq 27 (.mv (.s 1)),
 sq 28 (.len false (.s 27)),
 sq 29 (.mn [(.s 26),(.s 28)]),
 sa 6 (.mv (.s 29))])
 (.seq (.reg [0,1,5,6] [sq 30 (.build [(.bool false),(.sl .nil []),(.sl .nil [])] []),
 sq 31 (.box 3 (.s 30)),
 sa 7 (.mv (.s 31))])
 (.seq (.reg [0,1,5,6,7] [sq 32 (.call (.c (.fn (.func 159) [] [])) [(.c (.int .i64 2147483648))]),
 sa 8 (.mv (.s 32))])
 (.block 0
 (.loop [0,1,5,6,7,8] i128b1))))))) }
theorem tr128 : trF Tryz.prog h128 Tryz.f128 = some i128:=by kernel_rfl
def h129 : List (List Nat):=[[0],[1]]
def i129 : IFn:={ nparams:=1,ntmps:=6,results:=[.tmp 2],body :=
 (.seq (.reg [0] [sq 1 (.box 2 (.s 0)),
 sa 2 (.mv (.c (.sl .nil [])))])
 (.seq (.reg [1] [sq 3 (.fldA 1 false 1 (.s 1)),
 sq 4 (.load false 1 (.s 3)),
 sq 5 (.call (.c (.fn (.func 165) [] [])) [(.s 4)]),
 sa 2 (.mv (.s 5))])
 .ret)) }
theorem tr129 : trF Tryz.prog h129 Tryz.f129 = some i129:=by kernel_rfl
def h130 : List (List Nat):=[[0],[0],[0,3],[0,3],[0,3],[0,3],[],[0,3]]
def i130b0 : ICode :=
 (.seq (.seq (.reg [0,3] [sq 6 (.mv (.s 3)),
 sq 7 (.bin .gtr .num (.s 6) (.c (.int .i64 0))),
 sq 8 (.mv (.s 7)),
 ⟨(some 9),.mv (.s 0),(some (8,true)),[],false⟩,
 ⟨(some 10),.mv (.s 3),(some (8,true)),[],false⟩,
 ⟨(some 11),.bin .sub .num (.s 10) (.c (.int .i64 1)),(some (8,true)),[],false⟩,
 ⟨(some 12),.idxA 2 (.s 9) (.s 11),(some (8,true)),[],false⟩,
 ⟨(some 13),.load true 2 (.s 12),(some (8,true)),[],false⟩,
 ⟨(some 14),.call (.c (.fn (.func 84) [] [])) [(.s 13)],(some (8,true)),[],false⟩,
 ⟨(some 15),.bin .eql .num (.s 14) (.c (.int .i64 0)),(some (8,true)),[],false⟩,
 sq 16 (.pick (.s 8) (.s 15) (.c (.bool false)))])
 (.cond (.s 16)
 .skip
 (.exit 0)))
 (.block 1
 (.reg [0,3] [sq 17 (.mv (.s 3)),
 sq 18 (.bin .sub .num (.s 17) (.c (.int .i64 1))),
 sa 3 (.mv (.s 18))])))
def i130 : IFn:={ nparams:=1,ntmps:=24,results:=[.tmp 2],body :=
 (.seq (.reg [0] [sa 2 (.mv (.c (.sl .nil [])))])
 (.seq (.reg [0] [sq 4 (.mv (.s 0)),
 sq 5 (.len false (.s 4)),
 sa 3 (.mv (.s 5))])
 (.seq (.block 0
 (.loop [0,3] i130b0))
 (.seq (.seq (.reg [0,3] [sq 19 (.mv (.s 3)),
 sq 20 (.bin .eql .num (.s 19) (.c (.int .i64 0)))])
 (.cond (.s 20)
 (.seq (.reg [] [sa 2 (.mv (.c (.sl .nil [])))])
 .ret)
 .skip))
 (.seq (.reg [0,3] [sq 21 (.mv (.s 0)),
 sq 22 (.mv (.s 3)),
 sq 23 (.slice 2 (.s 21) none (some (.s 22)) none),
 sa 2 (.mv (.s 23))])
 .ret))))) }
theorem tr130 : trF Tryz.prog h130 Tryz.f130 = some i130:=by kernel_rfl
def h131 : List (List Nat):=[[0],[1,2]]
def i131 : IFn:={ nparams:=1,ntmps:=6,results:=[.cell 2 true 2],body :=
 (.seq (.reg [0] [sq 1 (.box 2 (.s 0)),
 sq 2 (.alloc 2 (.agg [(.bool false),(.sl .nil [])]))])
 (.seq (.reg [1,2] [sq 3 (.load true 2 (.s 1)),
 sq 4 (.build [(.bool false),(.sl .nil [])] []),
 sq 5 (.call (.c (.fn (.func 103) [] [])) [(.s 3),(.s 4)]),
 se (.store 2 (.s 2) (.s 5))])
 .ret)) }
theorem tr131 : trF Tryz.prog h131 Tryz.f131 = some i131:=by kernel_rfl
def h132 : List (List Nat):=[[0,1],[0,1],[0,1],[0,1,5],[1,5,13,14,15],[1,5,13,14,15],[1,5,13,14,15],[1,5,6,7,13,14,15],[1,5,13,14,15],[5]]
def i132b0 : ICode :=
 (.seq (.reg [1,5,13,14,15] [sq 16 (.bin .lss .num (.s 15) (.s 14))])
 (.seq (.cond (.s 16)
 .skip
 (.exit 0))
 (.seq (.block 1
 (.seq (.reg [1,5,13,14,15] [sq 17 (.mv (.s 15)),
 sq 18 (.idxA 2 (.s 13) (.s 15)),
 sq 19 (.load true 2 (.s 18)),
 sq 7 (.alloc 2 (.agg [(.bool false),(.sl .nil [])])),
 sa 6 (.mv (.s 17)),
 se (.store 2 (.s 7) (.s 19))])
 (.reg [1,5,6,7,13,14,15] [sq 20 (.mv (.s 5)),
 sq 21 (.mv (.s 6)),
 sq 22 (.mv (.s 1)),
 sq 23 (.load true 2 (.s 7)),
 sq 24 (.call (.s 22) [(.s 23)]),
 sq 25 (.idxA 2 (.s 20) (.s 21)),
 se (.store 2 (.s 25) (.s 24))])))
 (.reg [1,5,13,14,15] [sq 26 (.bin .add .num (.s 15) (.c (.int .i64 1))),
 sq 15 (.mv (.s 26))]))))
def i132 : IFn:={ nparams:=2,ntmps:=29,results:=[.tmp 4],body :=
 (.seq (.reg [0,1] [sa 4 (.mv (.c (.sl .nil [])))])
 (.seq (.reg [0,1] [sq 8 (.mv (.s 0)),
 sq 9 (.call (.c (.fn (.func 130) [] [])) [(.s 8)]),
 sa 0 (.mv (.s 9))])
 (.seq (.reg [0,1] [sq 10 (.mv (.s 0)),
 sq 11 (.len false (.s 10)),
 sq 12 (.mksl 2 32 (.agg [(.bool false),(.sl .nil [])]) (.s 11) (.s 11)),
 sa 5 (.mv (.s 12))])
 (.seq (.seq (.reg [0,1,5] [sq 13 (.mv (.s 0)),
 sq 14 (.len false (.s 13)),
 sq 15 (.mv (.c (.int .i64 0)))])
 (.block 0
 (.loop [1,5,13,14,15] i132b0)))
 (.seq (.reg [5] [sq 27 (.mv (.s 5)),
 sq 28 (.call (.c (.fn (.func 130) [] [])) [(.s 27)]),
 sa 4 (.mv (.s 28))])
 .ret))))) }
theorem tr132 : trF Tryz.prog h132 Tryz.f132 = some i132:=by kernel_rfl
def h133 : List (List Nat):=[[0,1],[2,3,4]]
def i133 : IFn:={ nparams:=2,ntmps:=9,results:=[.cell 4 true 2],body :=
 (.seq (.reg [0,1] [sq 2 (.box 2 (.s 0)),
 sq 3 (.box 2 (.s 1)),
 sq 4 (.alloc 2 (.agg [(.bool false),(.sl .nil [])]))])
 (.seq (.reg [2,3,4] [sq 5 (.fldA 0 true 2 (.s 2)),
 sq 6 (.load true 2 (.s 5)),
 sq 7 (.load true 2 (.s 3)),
 sq 8 (.call (.c (.fn (.func 145) [] [])) [(.s 6),(.s 7)]),
 se (.store 2 (.s 4) (.s 8))])
 .ret)) }
theorem tr133 : trF Tryz.prog h133 Tryz.f133 = some i133:=by kernel_rfl
def h134 : List (List Nat):=[[0,1],[0,1,4],[0,1,4],[4],[0,1,4]]
def i134 : IFn:={ nparams:=2,ntmps:=15,results:=[.cell 4 true 2],body :=
 (.seq (.reg [0,1] [sq 4 (.alloc 2 (.agg [(.bool false),(.sl .nil [])]))])
 (.seq (.reg [0,1,4] [sq 5 (.mv (.s 1)),
 sq 6 (.call (.c (.fn (.func 165) [] [])) [(.s 5)]),
 sa 1 (.mv (.s 6))])
 (.seq (.seq (.reg [0,1,4] [sq 7 (.mv (.s 1)),
 sq 8 (.len false (.s 7)),
 sq 9 (.bin .eql .num (.s 8) (.c (.int .i64 0)))])
 (.cond (.s 9)
 (.seq (.reg [4] [sq 10 (.build [(.bool false),(.sl .nil [])] []),
 se (.store 2 (.s 4) (.s 10))])
 .ret)
 .skip))
 (.seq (.reg [0,1,4] [sq 11 (.mv (.s 0)),
 sq 12 (.mv (.s 1)),
 sq 13 (.app 1 4 (.c (.sl .nil [])) (.s 12)),
 sq 14 (.build [(.bool false),(.sl .nil [])] [(0,1,(.s 11)),(1,1,(.s 13))]),
 se (.store 2 (.s 4) (.s 14))])
 .ret)))) }
theorem tr134 : trF Tryz.prog h134 Tryz.f134 = some i134:=by kernel_rfl
def h135 : List (List Nat):=[[0,1],[0,1],[0,1],[],[0,1],[0,1,6],[0,1,6],[0,1,6],[0,1,6,7,8],[],[0,1,6,7],[0,1,6,10],[0,1,6,10],[0,6],[],[6]]
def i135d0 : List IStep:=[sq 24 (.mv (.s 0)),
 sq 25 (.mv (.s 0)),
 ⟨(some 26),.len false (.s 25),none,[1],false⟩,
 ⟨(some 27),.bin .sub .num (.s 26) (.c (.int .i64 1)),none,[2],false⟩,
 ⟨(some 28),.idxA 2 (.s 24) (.s 27),none,[0,3],false⟩,
 ⟨(some 29),.load true 2 (.s 28),none,[4],false⟩,
 sq 30 (.mv (.s 1)),
 sq 31 (.mv (.s 1)),
 ⟨(some 32),.len false (.s 31),none,[7],false⟩,
 ⟨(some 33),.bin .sub .num (.s 32) (.c (.int .i64 1)),none,[8],false⟩,
 ⟨(some 34),.idxA 2 (.s 30) (.s 33),none,[6,9],false⟩,
 ⟨(some 35),.load true 2 (.s 34),none,[10],false⟩,
 ⟨(some 36),.call (.c (.fn (.func 166) [] [])) [(.s 29),(.s 35)],none,[5,11],false⟩,
 ⟨(some 23),.mv (.s 36),none,[12],false⟩,
 ⟨(some 37),.extr (.s 23) 0,none,[13],false⟩,
 ⟨(some 38),.extr (.s 23) 1,none,[13],false⟩,
 ⟨(some 39),.extr (.s 23) 2,none,[13],false⟩,
 sq 7 (.alloc 2 (.agg [(.bool false),(.sl .nil [])])),
 sq 8 (.alloc 2 (.agg [(.bool false),(.sl .nil [])])),
 ⟨none,.store 2 (.s 7) (.s 37),none,[17,14,12,0,1,2,3,4,5,6,7,8,9,10,11,13,18],false⟩,
 ⟨none,.store 2 (.s 8) (.s 38),none,[18,15,19,0,1,2,3,4,5,6,7,8,9,10,11,12,13,14,17],false⟩,
 ⟨(some 9),.mv (.s 39),none,[16,20,0,1,2,3,4,5,6,7,8,9,10,11,12,13,14,15,17,18,19],true⟩]
theorem i135d0t : tame i135d0 = false:=by kernel_rfl
def i135b0 : ICode :=
 (.seq (.seq (.reg [0,1,6] [sq 18 (.mv (.s 0)),
 sq 19 (.len false (.s 18)),
 sq 20 (.mv (.s 1)),
 sq 21 (.len false (.s 20)),
 sq 22 (.bin .geq .num (.s 19) (.s 21))])
 (.cond (.s 22)
 .skip
 (.exit 0)))
 (.block 1
 (.seq (.draw [0,1,6] i135d0)
 (.seq (.seq (.reg [0,1,6,7,8] [sq 40 (.load true 2 (.s 8)),
 sq 41 (.call (.c (.fn (.func 84) [] [])) [(.s 40)]),
 sq 42 (.bin .neq .num (.s 41) (.c (.int .i64 0)))])
 (.cond (.s 42)
 (.seq (.reg [] [sa 4 (.mv (.c (.sl .nil []))),
 sa 5 (.mv (.c (.bool false)))])
 .ret)
 .skip))
 (.seq (.reg [0,1,6,7] [sq 43 (.load true 2 (.s 7)),
 sq 44 (.mv (.s 0)),
 sq 45 (.len false (.s 44)),
 sq 46 (.mv (.s 1)),
 sq 47 (.len false (.s 46)),
 sq 48 (.bin .sub .num (.s 45) (.s 47)),
 sq 49 (.call (.c (.fn (.func 167) [] [])) [(.s 43),(.s 48)]),
 sa 10 (.mv (.s 49))])
 (.seq (.reg [0,1,6,10] [sq 50 (.mv (.s 6)),
 sq 51 (.mv (.s 10)),
 sq 52 (.call (.c (.fn (.func 94) [] [])) [(.s 50),(.s 51)]),
 sa 6 (.mv (.s 52))])
 (.reg [0,1,6,10] [sq 53 (.mv (.s 0)),
 sq 54 (.mv (.s 10)),
 sq 55 (.mv (.s 1)),
 sq 56 (.call (.c (.fn (.func 95) [] [])) [(.s 54),(.s 55)]),
 sq 57 (.call (.c (.fn (.func 113) [] [])) [(.s 53),(.s 56)]),
 sa 0 (.mv (.s 57))])))))))
def i135 : IFn:={ nparams:=2,ntmps:=62,results:=[.tmp 4,.tmp 5],body :=
 (.seq (.reg [0,1] [sa 4 (.mv (.c (.sl .nil []))),
 sa 5 (.mv (.c (.bool false)))])
 (.seq (.reg [0,1] [sq 11 (.mv (.s 0)),
 sq 12 (.call (.c (.fn (.func 93) [] [])) [(.s 11)]),
 sq 13 (.mv (.s 1)),
 sq 14 (.call (.c (.fn (.func 93) [] [])) [(.s 13)]),
 sa 0 (.mv (.s 12)),
 sa 1 (.mv (.s 14))])
 (.seq (.seq (.reg [0,1] [sq 15 (.mv (.s 1)),
 sq 16 (.len false (.s 15)),
 sq 17 (.bin .eql .num (.s 16) (.c (.int .i64 0)))])
 (.cond (.s 17)
 (.seq (.reg [] [sa 4 (.mv (.c (.sl .nil []))),
 sa 5 (.mv (.c (.bool false)))])
 .ret)
 .skip))
 (.seq (.reg [0,1] [sa 6 (.mv (.c (.sl .nil [])))])
 (.seq (.block 0
 (.loop [0,1,6] i135b0))
 (.seq (.seq (.reg [0,6] [sq 58 (.mv (.s 0)),
 sq 59 (.len false (.s 58)),
 sq 60 (.bin .gtr .num (.s 59) (.c (.int .i64 0)))])
 (.cond (.s 60)
 (.seq (.reg [] [sa 4 (.mv (.c (.sl .nil []))),
 sa 5 (.mv (.c (.bool false)))])
 .ret)
 .skip))
 (.seq (.reg [6] [sq 61 (.mv (.s 6)),
 sa 4 (.mv (.s 61)),
 sa 5 (.mv (.c (.bool true)))])
 .ret))))))) }
theorem tr135 : trF Tryz.prog h135 Tryz.f135 = some i135:=by kernel_rfl
def h136 : List (List Nat):=[[0,1],[2,3,4],[4,5,6],[4,5,6],[4,5,6],[4,5,6,8],[4,5]]
def i136d0 : List IStep:=[sq 9 (.load true 2 (.s 2)),
 ⟨(some 10),.call (.c (.fn (.func 168) [] [])) [(.s 9)],none,[0],false⟩,
 sq 11 (.load true 2 (.s 3)),
 ⟨(some 12),.call (.c (.fn (.func 168) [] [])) [(.s 11)],none,[2,1],false⟩,
 sq 5 (.alloc 2 (.agg [(.bool false),(.sl .nil [])])),
 sq 6 (.alloc 2 (.agg [(.bool false),(.sl .nil [])])),
 ⟨none,.store 2 (.s 5) (.s 10),none,[4,1,3,0,5],false⟩,
 ⟨none,.store 2 (.s 6) (.s 12),none,[5,3,6,0,1,2,4],false⟩]
theorem i136d0t : tame i136d0 = false:=by kernel_rfl
def i136d1 : List IStep:=[sq 22 (.load true 2 (.s 6)),
 sq 23 (.load true 2 (.s 8)),
 ⟨none,.store 2 (.s 5) (.s 22),none,[0],false⟩,
 ⟨none,.store 2 (.s 6) (.s 23),none,[1,2,0],false⟩]
theorem i136d1t : tame i136d1 = false:=by kernel_rfl
def i136b0 : ICode :=
 (.seq (.seq (.reg [4,5,6] [sq 13 (.load true 2 (.s 6)),
 sq 14 (.call (.c (.fn (.func 46) [] [])) [(.s 13)]),
 sq 15 (.bin .neq .num (.s 14) (.c (.int .i64 0)))])
 (.cond (.s 15)
 .skip
 (.exit 0)))
 (.block 1
 (.seq (.reg [4,5,6] [sq 17 (.load true 2 (.s 5)),
 sq 18 (.load true 2 (.s 6)),
 sq 19 (.call (.c (.fn (.func 141) [] [])) [(.s 17),(.s 18)]),
 sq 16 (.mv (.s 19)),
 sq 20 (.extr (.s 16) 0),
 sq 21 (.extr (.s 16) 1),
 sq 7 (.alloc 2 (.agg [(.bool false),(.sl .nil [])])),
 sq 8 (.alloc 2 (.agg [(.bool false),(.sl .nil [])])),
 se (.store 2 (.s 7) (.s 20)),
 se (.store 2 (.s 8) (.s 21))])
 (.draw [4,5,6,8] i136d1))))
def i136 : IFn:={ nparams:=2,ntmps:=25,results:=[.cell 4 true 2],body :=
 (.seq (.reg [0,1] [sq 2 (.box 2 (.s 0)),
 sq 3 (.box 2 (.s 1)),
 sq 4 (.alloc 2 (.agg [(.bool false),(.sl .nil [])]))])
 (.seq (.draw [2,3,4] i136d0)
 (.seq (.block 0
 (.loop [4,5,6] i136b0))
 (.seq (.reg [4,5] [sq 24 (.load true 2 (.s 5)),
 se (.store 2 (.s 4) (.s 24))])
 .ret)))) }
theorem tr136 : trF Tryz.prog h136 Tryz.f136 = some i136:=by kernel_rfl
def h137 : List (List Nat):=[[0],[0,2],[0,2,3],[0,2,3,4],[0,2,3,4],[0,2,3,4],[0,2,3,4],[2,3]]
def i137d0 : List IStep:=[sq 12 (.load true 2 (.s 3)),
 sq 13 (.mv (.s 0)),
 sq 14 (.mv (.s 4)),
 ⟨(some 15),.idxA 2 (.s 13) (.s 14),none,[1,2],false⟩,
 ⟨(some 16),.load true 2 (.s 15),none,[3],false⟩,
 ⟨(some 17),.call (.c (.fn (.func 136) [] [])) [(.s 12),(.s 16)],none,[0,4],false⟩,
 ⟨none,.store 2 (.s 3) (.s 17),none,[5,0,1,2,3,4],false⟩]
theorem i137d0t : tame i137d0 = true:=by kernel_rfl
def i137b0 : ICode :=
 (.seq (.seq (.reg [0,2,3,4] [sq 6 (.mv (.s 4)),
 sq 7 (.mv (.s 0)),
 sq 8 (.len false (.s 7)),
 sq 9 (.bin .lss .num (.s 6) (.s 8))])
 (.cond (.s 9)
 .skip
 (.exit 0)))
 (.seq (.block 1
 (.draw [0,2,3,4] i137d0))
 (.reg [0,2,3,4] [sq 10 (.mv (.s 4)),
 sq 11 (.bin .add .num (.s 10) (.c (.int .i64 1))),
 sa 4 (.mv (.s 11))])))
def i137 : IFn:={ nparams:=1,ntmps:=19,results:=[.cell 2 true 2],body :=
 (.seq (.reg [0] [sq 2 (.alloc 2 (.agg [(.bool false),(.sl .nil [])]))])
 (.seq (.reg [0,2] [sq 5 (.call (.c (.fn (.func 22) [] [])) [(.c (.int .i64 0))]),
 sq 3 (.alloc 2 (.agg [(.bool false),(.sl .nil [])])),
 se (.store 2 (.s 3) (.s 5))])
 (.seq (.seq (.reg [0,2,3] [sa 4 (.mv (.c (.int .i64 0)))])
 (.block 0
 (.loop [0,2,3,4] i137b0)))
 (.seq (.reg [2,3] [sq 18 (.load true 2 (.s 3)),
 se (.store 2 (.s 2) (.s 18))])
 .ret)))) }
theorem tr137 : trF Tryz.prog h137 Tryz.f137 = some i137:=by kernel_rfl
def h138 : List (List Nat):=[[0],[0],[],[0],[0,3],[0,3],[0,3]]
def i138 : IFn:={ nparams:=1,ntmps:=17,results:=[.tmp 2],body :=
 (.seq (.reg [0] [sa 2 (.mv (.c (.sl .nil [])))])
 (.seq (.seq (.reg [0] [sq 4 (.mv (.s 0)),
 sq 5 (.len false (.s 4)),
 sq 6 (.bin .eql .num (.s 5) (.c (.int .i64 0)))])
 (.cond (.s 6)
 (.seq (.reg [] [sa 2 (.mv (.c (.sl .nil [])))])
 .ret)
 .skip))
 (.seq (.reg [0] [sq 7 (.mv (.s 0)),
 sq 8 (.call (.c (.fn (.func 137) [] [])) [(.s 7)]),
 sq 3 (.alloc 2 (.agg [(.bool false),(.sl .nil [])])),
 se (.store 2 (.s 3) (.s 8))])
 (.seq (.seq (.reg [0,3] [sq 9 (.mv (.s 0)),
 sq 10 (.call (.c (.fn (.func 91) [] [])) [(.s 9)]),
 sq 11 (.fld 0 false 1 (.s 10))])
 (.cond (.s 11)
 (.reg [0,3] [sq 12 (.load true 2 (.s 3)),
 sq 13 (.call (.c (.fn (.func 169) [] [])) [(.s 12)]),
 se (.store 2 (.s 3) (.s 13))])
 .skip))
 (.seq (.reg [0,3] [sq 14 (.mv (.s 0)),
 sq 15 (.load true 2 (.s 3)),
 sq 16 (.call (.c (.fn (.func 170) [] [])) [(.s 14),(.s 15)]),
 sa 2 (.mv (.s 16))])
 .ret))))) }
theorem tr138 : trF Tryz.prog h138 Tryz.f138 = some i138:=by kernel_rfl
def h139 : List (List Nat):=[[0,1],[0,1],[0,1,6],[0,1,6,7],[1,6,7,8],[1,6,7,8,9],[1,6,7,8,9],[1,6,7,8,9],[1,6,7,8,9,10],[1,6,7,8,9,10],[1,6,7,8,9,10],[1,6,7,8,9],[6,7,8,9],[6,7,8,9],[6,7,8,9],[6,7,8,9],[6,7,8,9],[6,7]]
def i139b0 : ICode :=
 (.seq (.seq (.reg [1,6,7,8,9] [sq 20 (.mv (.s 7)),
 sq 21 (.call (.c (.fn (.func 96) [] [])) [(.s 20)]),
 sq 22 (.mv (.s 1)),
 sq 23 (.call (.c (.fn (.func 96) [] [])) [(.s 22)]),
 sq 24 (.bin .geq .num (.s 21) (.s 23))])
 (.cond (.s 24)
 .skip
 (.exit 0)))
 (.block 1
 (.seq (.reg [1,6,7,8,9] [sq 25 (.mv (.s 7)),
 sq 26 (.call (.c (.fn (.func 96) [] [])) [(.s 25)]),
 sq 27 (.mv (.s 1)),
 sq 28 (.call (.c (.fn (.func 96) [] [])) [(.s 27)]),
 sq 29 (.bin .sub .num (.s 26) (.s 28)),
 sq 30 (.bin .add .num (.s 29) (.c (.int .i64 1))),
 sq 31 (.mksl 2 32 (.agg [(.bool false),(.sl .nil [])]) (.s 30) (.s 30)),
 sa 10 (.mv (.s 31))])
 (.seq (.reg [1,6,7,8,9,10] [sq 32 (.mv (.s 10)),
 sq 33 (.mv (.s 10)),
 sq 34 (.len false (.s 33)),
 sq 35 (.bin .sub .num (.s 34) (.c (.int .i64 1))),
 sq 36 (.mv (.s 7)),
 sq 37 (.call (.c (.fn (.func 91) [] [])) [(.s 36)]),
 sq 38 (.idxA 2 (.s 32) (.s 35)),
 se (.store 2 (.s 38) (.s 37))])
 (.seq (.reg [1,6,7,8,9,10] [sq 39 (.mv (.s 6)),
 sq 40 (.load true 2 (.s 9)),
 sq 41 (.call (.c (.fn (.func 140) [] [])) [(.s 39),(.s 40)]),
 sq 42 (.mv (.s 10)),
 sq 43 (.call (.c (.fn (.func 98) [] [])) [(.s 41),(.s 42)]),
 sa 6 (.mv (.s 43))])
 (.seq (.reg [1,6,7,8,9,10] [sq 44 (.mv (.s 7)),
 sq 45 (.load true 2 (.s 9)),
 sq 46 (.call (.c (.fn (.func 140) [] [])) [(.s 44),(.s 45)]),
 sq 47 (.mv (.s 10)),
 sq 48 (.mv (.s 1)),
 sq 49 (.call (.c (.fn (.func 42) [] [])) [(.s 47),(.s 48)]),
 sq 50 (.call (.c (.fn (.func 142) [] [])) [(.s 46),(.s 49)]),
 sa 7 (.mv (.s 50))])
 (.reg [1,6,7,8,9] [sq 51 (.mv (.s 8)),
 sq 52 (.bin .sub .num (.s 51) (.c (.int .i64 1))),
 sa 8 (.mv (.s 52))])))))))
def i139b1 : ICode :=
 (.seq (.seq (.reg [6,7,8,9] [sq 53 (.mv (.s 8)),
 sq 54 (.bin .gtr .num (.s 53) (.c (.int .i64 0)))])
 (.cond (.s 54)
 .skip
 (.exit 2)))
 (.seq (.block 3
 (.seq (.reg [6,7,8,9] [sq 57 (.mv (.s 6)),
 sq 58 (.load true 2 (.s 9)),
 sq 59 (.call (.c (.fn (.func 140) [] [])) [(.s 57),(.s 58)]),
 sa 6 (.mv (.s 59))])
 (.reg [6,7,8,9] [sq 60 (.mv (.s 7)),
 sq 61 (.load true 2 (.s 9)),
 sq 62 (.call (.c (.fn (.func 140) [] [])) [(.s 60),(.s 61)]),
 sa 7 (.mv (.s 62))])))
 (.reg [6,7,8,9] [sq 55 (.mv (.s 8)),
 sq 56 (.bin .sub .num (.s 55) (.c (.int .i64 1))),
 sa 8 (.mv (.s 56))])))
def i139 : IFn:={ nparams:=2,ntmps:=65,results:=[.tmp 4,.tmp 5],body :=
 (.seq (.reg [0,1] [sa 4 (.mv (.c (.sl .nil []))),
 sa 5 (.mv (.c (.sl .nil [])))])
 (.seq (.reg [0,1] [sa 6 (.mv (.c (.sl .nil [])))])
 (.seq (.reg [0,1,6] [sq 11 (.mv (.s 0)),
 sa 7 (.mv (.s 11))])
 (.seq (.reg [0,1,6,7] [sq 12 (.mv (.s 0)),
 sq 13 (.call (.c (.fn (.func 96) [] [])) [(.s 12)]),
 sq 14 (.mv (.s 1)),
 sq 15 (.call (.c (.fn (.func 96) [] [])) [(.s 14)]),
 sq 16 (.bin .sub .num (.s 13) (.s 15)),
 sq 17 (.bin .add .num (.s 16) (.c (.int .i64 1))),
 sa 8 (.mv (.s 17))])
 (.seq (.reg [1,6,7,8] [sq 18 (.mv (.s 1)),
 sq 19 (.call (.c (.fn (.func 91) [] [])) [(.s 18)]),
 sq 9 (.alloc 2 (.agg [(.bool false),(.sl .nil [])])),
 se (.store 2 (.s 9) (.s 19))])
 (.seq (.block 0
 (.loop [1,6,7,8,9] i139b0))
 (.seq (.block 2
 (.loop [6,7,8,9] i139b1))
 (.seq (.reg [6,7] [sq 63 (.mv (.s 6)),
 sq 64 (.mv (.s 7)),
 sa 4 (.mv (.s 63)),
 sa 5 (.mv (.s 64))])
 .ret)))))))) }
theorem tr139 : trF Tryz.prog h139 Tryz.f139 = some i139:=by kernel_rfl
def h140 : List (List Nat):=[[0,1],[0,3],[0,3,5],[0,3,5,6],[0,3,5,6],[0,3,5,6],[0,3,5,6],[5]]
def i140d0 : List IStep:=[sq 13 (.mv (.s 5)),
 sq 14 (.load true 2 (.s 3)),
 sq 15 (.mv (.s 0)),
 sq 16 (.mv (.s 6)),
 ⟨(some 17),.idxA 2 (.s 15) (.s 16),none,[2,3],false⟩,
 ⟨(some 18),.load true 2 (.s 17),none,[4],false⟩,
 ⟨(some 19),.call (.c (.fn (.func 102) [] [])) [(.s 14),(.s 18)],none,[1,5],false⟩,
 ⟨(some 20),.bsl 2 (.agg [(.bool false),(.sl .nil [])]) 1 [(0,(.s 19))],none,[6],false⟩,
 ⟨(some 21),.app 2 32 (.s 13) (.s 20),none,[0,7,6],false⟩,
 ⟨(some 5),.mv (.s 21),none,[8,0,1,2,3,4,5,6,7],true⟩]
theorem i140d0t : tame i140d0 = true:=by kernel_rfl
def i140b0 : ICode :=
 (.seq (.seq (.reg [0,3,5,6] [sq 7 (.mv (.s 6)),
 sq 8 (.mv (.s 0)),
 sq 9 (.len false (.s 8)),
 sq 10 (.bin .lss .num (.s 7) (.s 9))])
 (.cond (.s 10)
 .skip
 (.exit 0)))
 (.seq (.block 1
 (.draw [0,3,5,6] i140d0))
 (.reg [0,3,5,6] [sq 11 (.mv (.s 6)),
 sq 12 (.bin .add .num (.s 11) (.c (.int .i64 1))),
 sa 6 (.mv (.s 12))])))
def i140 : IFn:={ nparams:=2,ntmps:=24,results:=[.tmp 4],body :=
 (.seq (.reg [0,1] [sq 3 (.box 2 (.s 1)),
 sa 4 (.mv (.c (.sl .nil [])))])
 (.seq (.reg [0,3] [sa 5 (.mv (.c (.sl .nil [])))])
 (.seq (.seq (.reg [0,3,5] [sa 6 (.mv (.c (.int .i64 0)))])
 (.block 0
 (.loop [0,3,5,6] i140b0)))
 (.seq (.reg [5] [sq 22 (.mv (.s 5)),
 sq 23 (.call (.c (.fn (.func 80) [] [])) [(.s 22)]),
 sa 4 (.mv (.s 23))])
 .ret)))) }
theorem tr140 : trF Tryz.prog h140 Tryz.f140 = some i140:=by kernel_rfl
def h141 : List (List Nat):=[[0,1],[2,3,4,5],[2,3,4,5,6,7],[2,3,4,5,7,8],[3,4,5,8,9],[3,4,5,8,9],[3,4,5,8,9],[3,4,5,8,9],[4,5,8,9]]
def i141d0 : List IStep:=[sq 33 (.load true 2 (.s 8)),
 sq 34 (.call (.c (.fn (.func 22) [] [])) [(.c (.int .i64 1))]),
 ⟨(some 35),.call (.c (.fn (.func 101) [] [])) [(.s 33),(.s 34)],none,[0,1],false⟩,
 sq 36 (.load true 2 (.s 9)),
 sq 37 (.load true 2 (.s 3)),
 ⟨(some 38),.call (.c (.fn (.func 172) [] [])) [(.s 36),(.s 37)],none,[3,4,2],false⟩,
 ⟨none,.store 2 (.s 4) (.s 35),none,[2,5,0,1],false⟩,
 ⟨none,.store 2 (.s 5) (.s 38),none,[5,6,0,1,2,3,4],false⟩]
theorem i141d0t : tame i141d0 = true:=by kernel_rfl
def i141d1 : List IStep:=[sq 39 (.load true 2 (.s 8)),
 sq 40 (.call (.c (.fn (.func 22) [] [])) [(.c (.int .i64 1))]),
 ⟨(some 41),.call (.c (.fn (.func 172) [] [])) [(.s 39),(.s 40)],none,[0,1],false⟩,
 sq 42 (.load true 2 (.s 9)),
 sq 43 (.load true 2 (.s 3)),
 ⟨(some 44),.call (.c (.fn (.func 101) [] [])) [(.s 42),(.s 43)],none,[3,4,2],false⟩,
 ⟨none,.store 2 (.s 4) (.s 41),none,[2,5,0,1],false⟩,
 ⟨none,.store 2 (.s 5) (.s 44),none,[5,6,0,1,2,3,4],false⟩]
theorem i141d1t : tame i141d1 = true:=by kernel_rfl
def i141d2 : List IStep:=[sq 45 (.load true 2 (.s 8)),
 sq 46 (.load true 2 (.s 9)),
 ⟨none,.store 2 (.s 4) (.s 45),none,[0],false⟩,
 ⟨none,.store 2 (.s 5) (.s 46),none,[1,2,0],false⟩]
theorem i141d2t : tame i141d2 = false:=by kernel_rfl
def i141 : IFn:={ nparams:=2,ntmps:=47,results:=[.cell 4 true 2,.cell 5 true 2],body :=
 (.seq (.reg [0,1] [sq 2 (.box 2 (.s 0)),
 sq 3 (.box 2 (.s 1)),
 sq 4 (.alloc 2 (.agg [(.bool false),(.sl .nil [])])),
 sq 5 (.alloc 2 (.agg [(.bool false),(.sl .nil [])]))])
 (.seq (.reg [2,3,4,5] [sq 11 (.fldA 1 false 1 (.s 2)),
 sq 12 (.load false 1 (.s 11)),
 sq 13 (.fldA 1 false 1 (.s 3)),
 sq 14 (.load false 1 (.s 13)),
 sq 15 (.call (.c (.fn (.func 171) [] [])) [(.s 12),(.s 14)]),
 sq 10 (.mv (.s 15)),
 sq 16 (.extr (.s 10) 0),
 sq 17 (.extr (.s 10) 1),
 sa 6 (.mv (.s 16)),
 sa 7 (.mv (.s 17))])
 (.seq (.reg [2,3,4,5,6,7] [sq 18 (.fldA 0 false 1 (.s 2)),
 sq 19 (.load false 1 (.s 18)),
 sq 20 (.fldA 0 false 1 (.s 3)),
 sq 21 (.load false 1 (.s 20)),
 sq 22 (.bin .neq .bool (.s 19) (.s 21)),
 sq 23 (.mv (.s 6)),
 sq 24 (.call (.c (.fn (.func 79) [] [])) [(.s 22),(.s 23)]),
 sq 8 (.alloc 2 (.agg [(.bool false),(.sl .nil [])])),
 se (.store 2 (.s 8) (.s 24))])
 (.seq (.reg [2,3,4,5,7,8] [sq 25 (.fldA 0 false 1 (.s 2)),
 sq 26 (.load false 1 (.s 25)),
 sq 27 (.mv (.s 7)),
 sq 28 (.call (.c (.fn (.func 79) [] [])) [(.s 26),(.s 27)]),
 sq 9 (.alloc 2 (.agg [(.bool false),(.sl .nil [])])),
 se (.store 2 (.s 9) (.s 28))])
 (.seq (.seq (.reg [3,4,5,8,9] [sq 29 (.fldA 0 false 1 (.s 9)),
 sq 30 (.load false 1 (.s 29))])
 (.cond (.s 30)
 (.seq (.seq (.reg [3,4,5,8,9] [sq 31 (.fldA 0 false 1 (.s 3)),
 sq 32 (.load false 1 (.s 31))])
 (.cond (.s 32)
 (.seq (.draw [3,4,5,8,9] i141d0)
 .ret)
 .skip))
 (.seq (.draw [3,4,5,8,9] i141d1)
 .ret))
 .skip))
 (.seq (.draw [4,5,8,9] i141d2)
 .ret)))))) }
theorem tr141 : trF Tryz.prog h141 Tryz.f141 = some i141:=by kernel_rfl
def h142 : List (List Nat):=[[0,1],[0,1]]
def i142 : IFn:={ nparams:=2,ntmps:=10,results:=[.tmp 4],body :=
 (.seq (.reg [0,1] [sa 4 (.mv (.c (.sl .nil [])))])
 (.seq (.reg [0,1] [sq 5 (.mv (.s 0)),
 sq 6 (.mv (.s 1)),
 sq 7 (.call (.c (.fn (.func 22) [] [])) [(.c (.int .i64 (-1)))]),
 sq 8 (.call (.c (.fn (.func 140) [] [])) [(.s 6),(.s 7)]),
 sq 9 (.call (.c (.fn (.func 98) [] [])) [(.s 5),(.s 8)]),
 sa 4 (.mv (.s 9))])
 .ret)) }
theorem tr142 : trF Tryz.prog h142 Tryz.f142 = some i142:=by kernel_rfl
def h143 : List (List Nat):=[[0,1],[0,1,4],[4],[0,1,4]]
def i143 : IFn:={ nparams:=2,ntmps:=18,results:=[.cell 4 true 2],body :=
 (.seq (.reg [0,1] [sq 4 (.alloc 2 (.agg [(.bool false),(.sl .nil [])]))])
 (.seq (.seq (.reg [0,1,4] [sq 5 (.mv (.s 1)),
 sq 6 (.bin .lss .num (.s 5) (.c (.int .i64 0))),
 sq 7 (.mv (.s 6)),
 ⟨(some 8),.mv (.s 1),(some (7,false)),[],false⟩,
 ⟨(some 9),.mv (.s 0),(some (7,false)),[],false⟩,
 ⟨(some 10),.len false (.s 9),(some (7,false)),[],false⟩,
 ⟨(some 11),.bin .geq .num (.s 8) (.s 10),(some (7,false)),[],false⟩,
 sq 12 (.pick (.s 7) (.c (.bool true)) (.s 11))])
 (.cond (.s 12)
 (.seq (.reg [4] [sq 13 (.call (.c (.fn (.func 22) [] [])) [(.c (.int .i64 0))]),
 se (.store 2 (.s 4) (.s 13))])
 .ret)
 .skip))
 (.seq (.reg [0,1,4] [sq 14 (.mv (.s 0)),
 sq 15 (.mv (.s 1)),
 sq 16 (.idxA 2 (.s 14) (.s 15)),
 sq 17 (.load true 2 (.s 16)),
 se (.store 2 (.s 4) (.s 17))])
 .ret))) }
theorem tr143 : trF Tryz.prog h143 Tryz.f143 = some i143:=by kernel_rfl
def h144 : List (List Nat):=[[0,1,2],[0,1,2],[0,1,2],[0,1,2,7],[0,1,2,7,20,21],[0,1,2,7,20,21],[0,1,2,7,20,21],[0,1,2,7,8,20,21],[0,1,2,7,20,21],[7]]
def i144b0 : ICode :=
 (.seq (.reg [0,1,2,7,20,21] [sq 22 (.bin .lss .num (.s 21) (.s 20))])
 (.seq (.cond (.s 22)
 .skip
 (.exit 0))
 (.seq (.block 1
 (.seq (.reg [0,1,2,7,20,21] [sq 23 (.mv (.s 21)),
 sa 8 (.mv (.s 23))])
 (.reg [0,1,2,7,8,20,21] [sq 24 (.mv (.s 7)),
 sq 25 (.mv (.s 8)),
 sq 26 (.mv (.s 2)),
 sq 27 (.mv (.s 0)),
 sq 28 (.mv (.s 8)),
 sq 29 (.call (.c (.fn (.func 173) [] [])) [(.s 27),(.s 28)]),
 sq 30 (.mv (.s 1)),
 sq 31 (.mv (.s 8)),
 sq 32 (.call (.c (.fn (.func 173) [] [])) [(.s 30),(.s 31)]),
 sq 33 (.call (.s 26) [(.s 29),(.s 32)]),
 sq 34 (.idxA 2 (.s 24) (.s 25)),
 se (.store 2 (.s 34) (.s 33))])))
 (.reg [0,1,2,7,20,21] [sq 35 (.bin .add .num (.s 21) (.c (.int .i64 1))),
 sq 21 (.mv (.s 35))]))))
def i144 : IFn:={ nparams:=3,ntmps:=38,results:=[.tmp 6],body :=
 (.seq (.reg [0,1,2] [sa 6 (.mv (.c (.sl .nil [])))])
 (.seq (.reg [0,1,2] [sq 9 (.mv (.s 0)),
 sq 10 (.call (.c (.fn (.func 130) [] [])) [(.s 9)]),
 sq 11 (.mv (.s 1)),
 sq 12 (.call (.c (.fn (.func 130) [] [])) [(.s 11)]),
 sa 0 (.mv (.s 10)),
 sa 1 (.mv (.s 12))])
 (.seq (.reg [0,1,2] [sq 13 (.mv (.s 0)),
 sq 14 (.len false (.s 13)),
 sq 15 (.mv (.s 1)),
 sq 16 (.len false (.s 15)),
 sq 17 (.mx [(.s 14),(.s 16)]),
 sq 18 (.mksl 2 32 (.agg [(.bool false),(.sl .nil [])]) (.s 17) (.s 17)),
 sa 7 (.mv (.s 18))])
 (.seq (.seq (.reg [0,1,2,7] [sq 19 (.mv (.s 7)),
 sq 20 (.len false (.s 19)),
 sq 21 (.mv (.c (.int .i64 0)))])
 (.block 0
 (.loop [0,1,2,7,20,21] i144b0)))
 (.seq (.reg [7] [sq 36 (.mv (.s 7)),
 sq 37 (.call (.c (.fn (.func 130) [] [])) [(.s 36)]),
 sa 6 (.mv (.s 37))])
 .ret))))) }
theorem tr144 : trF Tryz.prog h144 Tryz.f144 = some i144:=by kernel_rfl
def h145 : List (List Nat):=[[0,1],[2,3,4]]
def i145d0 : List IStep:=[sq 5 (.load true 2 (.s 2)),
 ⟨(some 6),.call (.c (.fn (.func 174) [] [])) [(.s 5)],none,[0],false⟩,
 sq 7 (.load true 2 (.s 3)),
 ⟨(some 8),.call (.c (.fn (.func 174) [] [])) [(.s 7)],none,[2,1],false⟩,
 ⟨(some 9),.bin .neq .bool (.s 6) (.s 8),none,[1,3],false⟩,
 sq 10 (.load true 2 (.s 2)),
 ⟨(some 11),.call (.c (.fn (.func 129) [] [])) [(.s 10)],none,[5,3],false⟩,
 sq 12 (.load true 2 (.s 3)),
 ⟨(some 13),.call (.c (.fn (.func 129) [] [])) [(.s 12)],none,[7,6],false⟩,
 ⟨(some 14),.call (.c (.fn (.func 175) [] [])) [(.s 11),(.s 13)],none,[6,8],false⟩,
 ⟨(some 15),.call (.c (.fn (.func 134) [] [])) [(.s 9),(.s 14)],none,[4,9],false⟩,
 ⟨none,.store 2 (.s 4) (.s 15),none,[10,0,1,2,3,4,5,6,7,8,9],false⟩]
theorem i145d0t : tame i145d0 = true:=by kernel_rfl
def i145 : IFn:={ nparams:=2,ntmps:=16,results:=[.cell 4 true 2],body :=
 (.seq (.reg [0,1] [sq 2 (.box 2 (.s 0)),
 sq 3 (.box 2 (.s 1)),
 sq 4 (.alloc 2 (.agg [(.bool false),(.sl .nil [])]))])
 (.seq (.draw [2,3,4] i145d0)
 .ret)) }
theorem tr145 : trF Tryz.prog h145 Tryz.f145 = some i145:=by kernel_rfl
def h146 : List (List Nat):=[[0,1],[0,1],[0,1],[]]
def i146 : IFn:={ nparams:=2,ntmps:=13,results:=[.tmp 4],body :=
 (.seq (.reg [0,1] [sa 4 (.mv (.c (.sl .nil [])))])
 (.seq (.seq (.reg [0,1] [sq 5 (.mv (.s 1)),
 sq 6 (.mv (.s 0)),
 sq 7 (.len false (.s 6)),
 sq 8 (.bin .lss .num (.s 5) (.s 7))])
 (.cond (.s 8)
 (.seq (.reg [0,1] [sq 9 (.mv (.s 0)),
 sq 10 (.mv (.s 1)),
 sq 11 (.idxA 1 (.s 9) (.s 10)),
 sq 12 (.load false 1 (.s 11)),
 sa 4 (.mv (.s 12))])
 .ret)
 .skip))
 (.seq (.reg [] [sa 4 (.mv (.c (.sl .nil [])))])
 .ret))) }
theorem tr146 : trF Tryz.prog h146 Tryz.f146 = some i146:=by kernel_rfl
def h147 : List (List Nat):=[[0,1],[2,3],[2,3,5,6],[],[2,3,5,6],[],[2,3,5]]
def i147d0 : List IStep:=[sq 7 (.load true 2 (.s 2)),
 ⟨(some 8),.call (.c (.fn (.func 84) [] [])) [(.s 7)],none,[0],false⟩,
 sq 9 (.load true 2 (.s 3)),
 ⟨(some 10),.call (.c (.fn (.func 84) [] [])) [(.s 9)],none,[2,1],false⟩,
 ⟨(some 5),.mv (.s 8),none,[1,3,0],true⟩,
 ⟨(some 6),.mv (.s 10),none,[3,4,0,1,2],true⟩]
theorem i147d0t : tame i147d0 = true:=by kernel_rfl
def i147d1 : List IStep:=[sq 19 (.mv (.s 5)),
 sq 20 (.load true 2 (.s 2)),
 ⟨(some 21),.call (.c (.fn (.func 129) [] [])) [(.s 20)],none,[1],false⟩,
 sq 22 (.load true 2 (.s 3)),
 ⟨(some 23),.call (.c (.fn (.func 129) [] [])) [(.s 22)],none,[3,2],false⟩,
 ⟨(some 24),.call (.c (.fn (.func 176) [] [])) [(.s 21),(.s 23)],none,[2,4],false⟩,
 ⟨(some 25),.bin .mul .num (.s 19) (.s 24),none,[0,5],false⟩,
 ⟨(some 4),.mv (.s 25),none,[6,5,0,1,2,3,4],true⟩]
theorem i147d1t : tame i147d1 = true:=by kernel_rfl
def i147 : IFn:={ nparams:=2,ntmps:=26,results:=[.tmp 4],body :=
 (.seq (.reg [0,1] [sq 2 (.box 2 (.s 0)),
 sq 3 (.box 2 (.s 1)),
 sa 4 (.mv (.c (.int .i64 0)))])
 (.seq (.draw [2,3] i147d0)
 (.seq (.block 0
 (.seq (.reg [2,3,5,6] [sq 12 (.mv (.s 5)),
 sq 13 (.mv (.s 6)),
 sq 14 (.bin .lss .num (.s 12) (.s 13)),
 sa 11 (.mv (.s 14))])
 (.cond (.s 11)
 (.seq (.reg [] [sa 4 (.mv (.c (.int .i64 (-1))))])
 .ret)
 (.seq (.reg [2,3,5,6] [sq 16 (.mv (.s 5)),
 sq 17 (.mv (.s 6)),
 sq 18 (.bin .gtr .num (.s 16) (.s 17)),
 sa 15 (.mv (.s 18))])
 (.cond (.s 15)
 (.seq (.reg [] [sa 4 (.mv (.c (.int .i64 1)))])
 .ret)
 .skip)))))
 (.seq (.draw [2,3,5] i147d1)
 .ret)))) }
theorem tr147 : trF Tryz.prog h147 Tryz.f147 = some i147:=by kernel_rfl
def h148 : List (List Nat):=[[0,1],[0,1],[0,1,5],[0,1,5,6],[0,1,5,6,7],[0,1,5,6,7],[0,1,5,6,7],[0,1,5,6,7],[0,1,5,6,7],[0,1,5,6,7],[0,1,5,6,7],[0,1,5,6,7],[0,1,5,6,7],[5]]
def i148b0 : ICode :=
 (.seq (.seq (.reg [0,1,5,6,7] [sq 8 (.mv (.s 7)),
 sq 9 (.mv (.s 0)),
 sq 10 (.len false (.s 9)),
 sq 11 (.bin .lss .num (.s 8) (.s 10)),
 sq 12 (.mv (.s 11)),
 ⟨(some 13),.mv (.s 7),(some (12,false)),[],false⟩,
 ⟨(some 14),.mv (.s 1),(some (12,false)),[],false⟩,
 ⟨(some 15),.len false (.s 14),(some (12,false)),[],false⟩,
 ⟨(some 16),.bin .lss .num (.s 13) (.s 15),(some (12,false)),[],false⟩,
 sq 17 (.pick (.s 12) (.c (.bool true)) (.s 16)),
 sq 18 (.mv (.s 17)),
 ⟨(some 19),.mv (.s 6),(some (18,false)),[],false⟩,
 ⟨(some 20),.bin .gtr .num (.s 19) (.c (.int .i64 0)),(some (18,false)),[],false⟩,
 sq 21 (.pick (.s 18) (.c (.bool true)) (.s 20))])
 (.cond (.s 21)
 .skip
 (.exit 0)))
 (.seq (.block 1
 (.seq (.seq (.reg [0,1,5,6,7] [sq 24 (.mv (.s 7)),
 sq 25 (.mv (.s 0)),
 sq 26 (.len false (.s 25)),
 sq 27 (.bin .lss .num (.s 24) (.s 26))])
 (.cond (.s 27)
 (.reg [0,1,5,6,7] [sq 28 (.mv (.s 6)),
 sq 29 (.mv (.s 0)),
 sq 30 (.mv (.s 7)),
 sq 31 (.idxA 1 (.s 29) (.s 30)),
 sq 32 (.load false 1 (.s 31)),
 sq 33 (.bin .add .num (.s 28) (.s 32)),
 sa 6 (.mv (.s 33))])
 .skip))
 (.seq (.seq (.reg [0,1,5,6,7] [sq 34 (.mv (.s 7)),
 sq 35 (.mv (.s 1)),
 sq 36 (.len false (.s 35)),
 sq 37 (.bin .lss .num (.s 34) (.s 36))])
 (.cond (.s 37)
 (.reg [0,1,5,6,7] [sq 38 (.mv (.s 6)),
 sq 39 (.mv (.s 1)),
 sq 40 (.mv (.s 7)),
 sq 41 (.idxA 1 (.s 39) (.s 40)),
 sq 42 (.load false 1 (.s 41)),
 sq 43 (.bin .add .num (.s 38) (.s 42)),
 sa 6 (.mv (.s 43))])
 .skip))
 (.seq (.reg [0,1,5,6,7] [sq 44 (.mv (.s 5)),
 sq 45 (.mv (.s 6)),
 sq 46 (.bin .rem .num (.s 45) (.c (.int .i64 65536))),
 sq 47 (.bsl 1 (.int .i64 0) 1 [(0,(.s 46))]),
 sq 48 (.app 1 8 (.s 44) (.s 47)),
 sa 5 (.mv (.s 48))])
 (.reg [0,1,5,6,7] [sq 49 (.mv (.s 6)),
 sq 50 (.bin .quo .num (.s 49) (.c (.int .i64 65536))),
 sa 6 (.mv (.s 50))])))))
 (.reg [0,1,5,6,7] [sq 22 (.mv (.s 7)),
 sq 23 (.bin .add .num (.s 22) (.c (.int .i64 1))),
 sa 7 (.mv (.s 23))])))
def i148 : IFn:={ nparams:=2,ntmps:=52,results:=[.tmp 4],body :=
 (.seq (.reg [0,1] [sa 4 (.mv (.c (.sl .nil [])))])
 (.seq (.reg [0,1] [sa 5 (.mv (.c (.sl .nil [])))])
 (.seq (.reg [0,1,5] [sa 6 (.mv (.c (.int .i64 0)))])
 (.seq (.seq (.reg [0,1,5,6] [sa 7 (.mv (.c (.int .i64 0)))])
 (.block 0
 (.loop [0,1,5,6,7] i148b0)))
 (.seq (.reg [5] [sq 51 (.mv (.s 5)),
 sa 4 (.mv (.s 51))])
 .ret))))) }
theorem tr148 : trF Tryz.prog h148 Tryz.f148 = some i148:=by kernel_rfl
def h149 : List (List Nat):=[[0,1],[0,1],[0,1],[],[],[0,1],[0,1,5],[0,1,5],[0,1,5],[],[0,1,5],[],[0,1,5],[]]
def i149d0 : List IStep:=[sq 23 (.mv (.s 0)),
 sq 24 (.mv (.s 5)),
 ⟨(some 25),.idxA 1 (.s 23) (.s 24),none,[0,1],false⟩,
 ⟨(some 26),.load false 1 (.s 25),none,[2],false⟩,
 sq 27 (.mv (.s 1)),
 sq 28 (.mv (.s 5)),
 ⟨(some 29),.idxA 1 (.s 27) (.s 28),none,[4,5],false⟩,
 ⟨(some 30),.load false 1 (.s 29),none,[6],false⟩,
 ⟨(some 31),.bin .lss .num (.s 26) (.s 30),none,[3,7],false⟩]
theorem i149d0t : tame i149d0 = true:=by kernel_rfl
def i149d1 : List IStep:=[sq 32 (.mv (.s 0)),
 sq 33 (.mv (.s 5)),
 ⟨(some 34),.idxA 1 (.s 32) (.s 33),none,[0,1],false⟩,
 ⟨(some 35),.load false 1 (.s 34),none,[2],false⟩,
 sq 36 (.mv (.s 1)),
 sq 37 (.mv (.s 5)),
 ⟨(some 38),.idxA 1 (.s 36) (.s 37),none,[4,5],false⟩,
 ⟨(some 39),.load false 1 (.s 38),none,[6],false⟩,
 ⟨(some 40),.bin .gtr .num (.s 35) (.s 39),none,[3,7],false⟩]
theorem i149d1t : tame i149d1 = true:=by kernel_rfl
def i149b0 : ICode :=
 (.seq (.seq (.reg [0,1,5] [sq 19 (.mv (.s 5)),
 sq 20 (.bin .geq .num (.s 19) (.c (.int .i64 0)))])
 (.cond (.s 20)
 .skip
 (.exit 0)))
 (.seq (.block 1
 (.seq (.seq (.draw [0,1,5] i149d0)
 (.cond (.s 31)
 (.seq (.reg [] [sa 4 (.mv (.c (.int .i64 (-1))))])
 .ret)
 .skip))
 (.seq (.draw [0,1,5] i149d1)
 (.cond (.s 40)
 (.seq (.reg [] [sa 4 (.mv (.c (.int .i64 1)))])
 .ret)
 .skip))))
 (.reg [0,1,5] [sq 21 (.mv (.s 5)),
 sq 22 (.bin .sub .num (.s 21) (.c (.int .i64 1))),
 sa 5 (.mv (.s 22))])))
def i149 : IFn:={ nparams:=2,ntmps:=41,results:=[.tmp 4],body :=
 (.seq (.reg [0,1] [sa 4 (.mv (.c (.int .i64 0)))])
 (.seq (.seq (.reg [0,1] [sq 6 (.mv (.s 0)),
 sq 7 (.len false (.s 6)),
 sq 8 (.mv (.s 1)),
 sq 9 (.len false (.s 8)),
 sq 10 (.bin .neq .num (.s 7) (.s 9))])
 (.cond (.s 10)
 (.seq (.seq (.reg [0,1] [sq 11 (.mv (.s 0)),
 sq 12 (.len false (.s 11)),
 sq 13 (.mv (.s 1)),
 sq 14 (.len false (.s 13)),
 sq 15 (.bin .lss .num (.s 12) (.s 14))])
 (.cond (.s 15)
 (.seq (.reg [] [sa 4 (.mv (.c (.int .i64 (-1))))])
 .ret)
 .skip))
 (.seq (.reg [] [sa 4 (.mv (.c (.int .i64 1)))])
 .ret))
 .skip))
 (.seq (.seq (.reg [0,1] [sq 16 (.mv (.s 0)),
 sq 17 (.len false (.s 16)),
 sq 18 (.bin .sub .num (.s 17) (.c (.int .i64 1))),
 sa 5 (.mv (.s 18))])
 (.block 0
 (.loop [0,1,5] i149b0)))
 (.seq (.reg [] [sa 4 (.mv (.c (.int .i64 0)))])
 .ret)))) }
theorem tr149 : trF Tryz.prog h149 Tryz.f149 = some i149:=by kernel_rfl
end Go.Proofs.YtklelbidjcealaaGreat
