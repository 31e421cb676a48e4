/- A part of the proof: an evaluator of programs, its soundness, and what it says of the functions in hand. It holds without further conditions. -/
import Derived.Test.YtklelbidjcealaaGreatG3
import Derived.KernelRfl
import Derived.Test.YtklelbidjcealaaGreatChecked
import Derived.Attr
set_option linter.unusedVariables false
set_option linter.unusedSimpArgs false
set_option maxRecDepth 100000
namespace Go.Proofs.YtklelbidjcealaaGreat
open Go.Ab
def h150 : List (List Nat):=[[0,1],[0,1],[0,1,5],[0,1,5,6],[0,1,5,6,7],[0,1,5,6,7],[0,1,5,6,7],[0,1,5,7,8],[0,1,5,6,7,8],[0,1,5,6,7,8],[0,1,5,6,7,8],[0,1,5,7,8],[0,1,5,7,8],[0,1,5,6,7,8],[0,1,5,6,7],[5]]
def i150b0 : ICode :=
 (.seq (.seq (.reg [0,1,5,6,7] [sq 9 (.mv (.s 7)),
 sq 10 (.mv (.s 0)),
 sq 11 (.len false (.s 10)),
 sq 12 (.bin .lss .num (.s 9) (.s 11))])
 (.cond (.s 12)
 .skip
 (.exit 0)))
 (.seq (.block 1
 (.seq (.reg [0,1,5,6,7] [sq 15 (.mv (.s 0)),
 sq 16 (.mv (.s 7)),
 sq 17 (.idxA 1 (.s 15) (.s 16)),
 sq 18 (.load false 1 (.s 17)),
 sq 19 (.mv (.s 6)),
 sq 20 (.bin .sub .num (.s 18) (.s 19)),
 sa 8 (.mv (.s 20))])
 (.seq (.reg [0,1,5,7,8] [sa 6 (.mv (.c (.int .i64 0)))])
 (.seq (.seq (.reg [0,1,5,6,7,8] [sq 21 (.mv (.s 7)),
 sq 22 (.mv (.s 1)),
 sq 23 (.len false (.s 22)),
 sq 24 (.bin .lss .num (.s 21) (.s 23))])
 (.cond (.s 24)
 (.reg [0,1,5,6,7,8] [sq 25 (.mv (.s 8)),
 sq 26 (.mv (.s 1)),
 sq 27 (.mv (.s 7)),
 sq 28 (.idxA 1 (.s 26) (.s 27)),
 sq 29 (.load false 1 (.s 28)),
 sq 30 (.bin .sub .num (.s 25) (.s 29)),
 sa 8 (.mv (.s 30))])
 .skip))
 (.seq (.seq (.reg [0,1,5,6,7,8] [sq 31 (.mv (.s 8)),
 sq 32 (.bin .lss .num (.s 31) (.c (.int .i64 0)))])
 (.cond (.s 32)
 (.seq (.reg [0,1,5,7,8] [sq 33 (.mv (.s 8)),
 sq 34 (.bin .add .num (.s 33) (.c (.int .i64 65536))),
 sa 8 (.mv (.s 34))])
 (.reg [0,1,5,7,8] [sa 6 (.mv (.c (.int .i64 1)))]))
 .skip))
 (.reg [0,1,5,6,7,8] [sq 35 (.mv (.s 5)),
 sq 36 (.mv (.s 8)),
 sq 37 (.bsl 1 (.int .i64 0) 1 [(0,(.s 36))]),
 sq 38 (.app 1 8 (.s 35) (.s 37)),
 sa 5 (.mv (.s 38))]))))))
 (.reg [0,1,5,6,7] [sq 13 (.mv (.s 7)),
 sq 14 (.bin .add .num (.s 13) (.c (.int .i64 1))),
 sa 7 (.mv (.s 14))])))
def i150 : IFn:={ nparams:=2,ntmps:=40,results:=[.tmp 4],body :=
 (.seq (.reg [0,1] [sa 4 (.mv (.c (.sl .nil [])))])
 (.seq (.reg [0,1] [sa 5 (.mv (.c (.sl .nil [])))])
 (.seq (.reg [0,1,5] [sa 6 (.mv (.c (.int .i64 0)))])
 (.seq (.seq (.reg [0,1,5,6] [sa 7 (.mv (.c (.int .i64 0)))])
 (.block 0
 (.loop [0,1,5,6,7] i150b0)))
 (.seq (.reg [5] [sq 39 (.mv (.s 5)),
 sa 4 (.mv (.s 39))])
 .ret))))) }
theorem tr150 : trF Tryz.prog h150 Tryz.f150 = some i150:=by kernel_rfl
def h151 : List (List Nat):=[[0,1,2],[2,3,4,6],[2,3,4,6,7,8],[6,7,8,9,10],[6,7,8,9],[6,7,8,9,10],[6,7,8,9],[6,7,8,10]]
def i151d0 : List IStep:=[sq 11 (.load true 2 (.s 3)),
 ⟨(some 12),.call (.c (.fn (.func 129) [] [])) [(.s 11)],none,[0],false⟩,
 sq 13 (.load true 2 (.s 4)),
 ⟨(some 14),.call (.c (.fn (.func 129) [] [])) [(.s 13)],none,[2,1],false⟩,
 ⟨(some 7),.mv (.s 12),none,[1,3,0],true⟩,
 ⟨(some 8),.mv (.s 14),none,[3,4,0,1,2],true⟩]
theorem i151d0t : tame i151d0 = true:=by kernel_rfl
def i151d1 : List IStep:=[sq 15 (.load true 2 (.s 3)),
 ⟨(some 16),.call (.c (.fn (.func 174) [] [])) [(.s 15)],none,[0],false⟩,
 sq 17 (.load true 2 (.s 4)),
 ⟨(some 18),.call (.c (.fn (.func 174) [] [])) [(.s 17)],none,[2,1],false⟩,
 sq 19 (.mv (.s 2)),
 ⟨(some 20),.bin .neq .bool (.s 18) (.s 19),none,[3,4],false⟩,
 ⟨(some 9),.mv (.s 16),none,[1,3,0],true⟩,
 ⟨(some 10),.mv (.s 20),none,[5,6,0,1,2,3,4],true⟩]
theorem i151d1t : tame i151d1 = true:=by kernel_rfl
def i151 : IFn:={ nparams:=3,ntmps:=45,results:=[.cell 6 true 2],body :=
 (.seq (.reg [0,1,2] [sq 3 (.box 2 (.s 0)),
 sq 4 (.box 2 (.s 1)),
 sq 6 (.alloc 2 (.agg [(.bool false),(.sl .nil [])]))])
 (.seq (.draw [2,3,4,6] i151d0)
 (.seq (.draw [2,3,4,6,7,8] i151d1)
 (.seq (.block 0
 (.seq (.reg [6,7,8,9,10] [sq 22 (.mv (.s 9)),
 sq 23 (.mv (.s 10)),
 sq 24 (.bin .eql .bool (.s 22) (.s 23)),
 sa 21 (.mv (.s 24))])
 (.cond (.s 21)
 (.seq (.reg [6,7,8,9] [sq 25 (.mv (.s 9)),
 sq 26 (.mv (.s 7)),
 sq 27 (.mv (.s 8)),
 sq 28 (.call (.c (.fn (.func 177) [] [])) [(.s 26),(.s 27)]),
 sq 29 (.call (.c (.fn (.func 134) [] [])) [(.s 25),(.s 28)]),
 se (.store 2 (.s 6) (.s 29))])
 .ret)
 (.seq (.reg [6,7,8,9,10] [sq 31 (.mv (.s 7)),
 sq 32 (.mv (.s 8)),
 sq 33 (.call (.c (.fn (.func 176) [] [])) [(.s 31),(.s 32)]),
 sq 34 (.bin .geq .num (.s 33) (.c (.int .i64 0))),
 sa 30 (.mv (.s 34))])
 (.cond (.s 30)
 (.seq (.reg [6,7,8,9] [sq 35 (.mv (.s 9)),
 sq 36 (.mv (.s 7)),
 sq 37 (.mv (.s 8)),
 sq 38 (.call (.c (.fn (.func 178) [] [])) [(.s 36),(.s 37)]),
 sq 39 (.call (.c (.fn (.func 134) [] [])) [(.s 35),(.s 38)]),
 se (.store 2 (.s 6) (.s 39))])
 .ret)
 .skip)))))
 (.seq (.reg [6,7,8,10] [sq 40 (.mv (.s 10)),
 sq 41 (.mv (.s 8)),
 sq 42 (.mv (.s 7)),
 sq 43 (.call (.c (.fn (.func 178) [] [])) [(.s 41),(.s 42)]),
 sq 44 (.call (.c (.fn (.func 134) [] [])) [(.s 40),(.s 43)]),
 se (.store 2 (.s 6) (.s 44))])
 .ret))))) }
theorem tr151 : trF Tryz.prog h151 Tryz.f151 = some i151:=by kernel_rfl
def h152 : List (List Nat):=[[0],[1]]
def i152d0 : List IStep:=[sq 3 (.load true 2 (.s 1)),
 sq 4 (.call (.c (.fn (.func 87) [] [])) [(.c (.int .i64 1))]),
 ⟨(some 5),.bsl 2 (.agg [(.bool false),(.sl .nil [])]) 2 [(0,(.s 3)),(1,(.s 4))],none,[0,1],false⟩,
 ⟨(some 2),.mv (.s 5),none,[2,1,0],true⟩]
theorem i152d0t : tame i152d0 = true:=by kernel_rfl
def i152 : IFn:={ nparams:=1,ntmps:=6,results:=[.tmp 2],body :=
 (.seq (.reg [0] [sq 1 (.box 2 (.s 0)),
 sa 2 (.mv (.c (.sl .nil [])))])
 (.seq (.draw [1] i152d0)
 .ret)) }
theorem tr152 : trF Tryz.prog h152 Tryz.f152 = some i152:=by kernel_rfl
def h153 : List (List Nat):=[[0,1],[2,3,4]]
def i153 : IFn:={ nparams:=2,ntmps:=8,results:=[.cell 4 true 2],body :=
 (.seq (.reg [0,1] [sq 2 (.box 2 (.s 0)),
 sq 3 (.box 2 (.s 1)),
 sq 4 (.alloc 2 (.agg [(.bool false),(.sl .nil [])]))])
 (.seq (.reg [2,3,4] [sq 5 (.load true 2 (.s 2)),
 sq 6 (.load true 2 (.s 3)),
 sq 7 (.call (.c (.fn (.func 151) [] [])) [(.s 5),(.s 6),(.c (.bool true))]),
 se (.store 2 (.s 4) (.s 7))])
 .ret)) }
theorem tr153 : trF Tryz.prog h153 Tryz.f153 = some i153:=by kernel_rfl
def h154 : List (List Nat):=[[0,1],[2,3],[2,3,5],[2,3,5,6],[5,6],[],[],[2,3,5]]
def i154 : IFn:={ nparams:=2,ntmps:=24,results:=[.tmp 4],body :=
 (.seq (.reg [0,1] [sq 2 (.box 2 (.s 0)),
 sq 3 (.box 2 (.s 1)),
 sa 4 (.mv (.c (.int .i64 0)))])
 (.seq (.reg [2,3] [sq 7 (.load true 2 (.s 2)),
 sq 8 (.call (.c (.fn (.func 46) [] [])) [(.s 7)]),
 sa 5 (.mv (.s 8))])
 (.seq (.reg [2,3,5] [sq 9 (.load true 2 (.s 3)),
 sq 10 (.call (.c (.fn (.func 46) [] [])) [(.s 9)]),
 sa 6 (.mv (.s 10))])
 (.seq (.seq (.reg [2,3,5,6] [sq 11 (.mv (.s 5)),
 sq 12 (.mv (.s 6)),
 sq 13 (.bin .neq .num (.s 11) (.s 12))])
 (.cond (.s 13)
 (.seq (.seq (.reg [5,6] [sq 14 (.mv (.s 5)),
 sq 15 (.mv (.s 6)),
 sq 16 (.bin .lss .num (.s 14) (.s 15))])
 (.cond (.s 16)
 (.seq (.reg [] [sa 4 (.mv (.c (.int .i64 (-1))))])
 .ret)
 .skip))
 (.seq (.reg [] [sa 4 (.mv (.c (.int .i64 1)))])
 .ret))
 .skip))
 (.seq (.reg [2,3,5] [sq 17 (.mv (.s 5)),
 sq 18 (.fldA 1 false 1 (.s 2)),
 sq 19 (.load false 1 (.s 18)),
 sq 20 (.fldA 1 false 1 (.s 3)),
 sq 21 (.load false 1 (.s 20)),
 sq 22 (.call (.c (.fn (.func 149) [] [])) [(.s 19),(.s 21)]),
 sq 23 (.bin .mul .num (.s 17) (.s 22)),
 sa 4 (.mv (.s 23))])
 .ret))))) }
theorem tr154 : trF Tryz.prog h154 Tryz.f154 = some i154:=by kernel_rfl
def i155s0 : ByteArray:=⟨#[0,1,2,2,3,3,3,3,4,4,4,4,4,4,4,4,5,5,5,5,5,5,5,5,5,5,5,5,5,5,5,5,6,6,6,6,6,6,6,6,6,6,6,6,6,6,6,6,6,6,6,6,6,6,6,6,6,6,6,6,6,6,6,6,7,7,7,7,7,7,7,7,7,7,7,7,7,7,7,7,7,7,7,7,7,7,7,7,7,7,7,7,7,7,7,7,7,7,7,7,7,7,7,7,7,7,7,7,7,7,7,7,7,7,7,7,7,7,7,7,7,7,7,7,7,7,7,7,8,8,8,8,8,8,8,8,8,8,8,8,8,8,8,8,8,8,8,8,8,8,8,8,8,8,8,8,8,8,8,8,8,8,8,8,8,8,8,8,8,8,8,8,8,8,8,8,8,8,8,8,8,8,8,8,8,8,8,8,8,8,8,8,8,8,8,8,8,8,8,8,8,8,8,8,8,8,8,8,8,8,8,8,8,8,8,8,8,8,8,8,8,8,8,8,8,8,8,8,8,8,8,8,8,8,8,8,8,8,8,8,8,8,8,8,8,8,8,8,8,8,8,8,8,8,8,8]⟩
def h155 : List (List Nat):=[[0],[0,2],[0],[0],[0,2],[0,2],[0,2],[0,2]]
def i155 : IFn:={ nparams:=1,ntmps:=19,results:=[.tmp 2],body :=
 (.seq (.reg [0] [sa 2 (.mv (.c (.int .i64 0)))])
 (.seq (.seq (.reg [0,2] [sq 3 (.mv (.s 0)),
 sq 4 (.bin .geq .num (.s 3) (.c (.int .u32 65536)))])
 (.cond (.s 4)
 (.seq (.reg [0] [sq 5 (.mv (.s 0)),
 sq 6 (.bin .shr .num (.s 5) (.c (.int .u64 16))),
 sa 0 (.mv (.s 6))])
 (.reg [0] [sa 2 (.mv (.c (.int .i64 16)))]))
 .skip))
 (.seq (.seq (.reg [0,2] [sq 7 (.mv (.s 0)),
 sq 8 (.bin .geq .num (.s 7) (.c (.int .u32 256)))])
 (.cond (.s 8)
 (.seq (.reg [0,2] [sq 9 (.mv (.s 0)),
 sq 10 (.bin .shr .num (.s 9) (.c (.int .u64 8))),
 sa 0 (.mv (.s 10))])
 (.reg [0,2] [sq 11 (.mv (.s 2)),
 sq 12 (.bin .add .num (.s 11) (.c (.int .i64 8))),
 sa 2 (.mv (.s 12))]))
 .skip))
 (.seq (.reg [0,2] [sq 13 (.mv (.s 2)),
 sq 14 (.mv (.s 0)),
 sq 15 (.conv .u8 (.s 14)),
 sq 16 (.idxS (.c (.str i155s0)) (.s 15)),
 sq 17 (.conv .i64 (.s 16)),
 sq 18 (.bin .add .num (.s 13) (.s 17)),
 sa 2 (.mv (.s 18))])
 .ret)))) }
theorem tr155 : trF Tryz.prog h155 Tryz.f155 = some i155:=by kernel_rfl
def h156 : List (List Nat):=[[0,1],[0,1],[0],[0,1],[0,1],[6,7],[0,1],[0,1,8],[0,1,8,9],[8,9,10,11],[8,9,10,11,12],[8,9,10,11,12,13],[8,9,10,11,12,13],[8,9,10,11,12,13],[8,9,10,11,12,13,14],[8,9,10,11,12,13,14,15],[8,9,10,11,12,13,14,15],[8,9,10,11,12,13,14,15],[8,9,10,11,12,13,14],[8,9,10,11,12,13],[8,10,12]]
def i156d0 : List IStep:=[sq 66 (.mv (.s 10)),
 sq 67 (.mv (.s 13)),
 sq 68 (.mv (.s 9)),
 ⟨(some 69),.bin .add .num (.s 67) (.s 68),none,[1,2],false⟩,
 ⟨(some 70),.idxA 1 (.s 66) (.s 69),none,[0,3],false⟩,
 ⟨(some 71),.load false 1 (.s 70),none,[4],false⟩,
 sq 72 (.mv (.s 10)),
 sq 73 (.mv (.s 13)),
 sq 74 (.mv (.s 9)),
 ⟨(some 75),.bin .add .num (.s 73) (.s 74),none,[7,8],false⟩,
 ⟨(some 76),.bin .sub .num (.s 75) (.c (.int .i64 1)),none,[9],false⟩,
 ⟨(some 77),.idxA 1 (.s 72) (.s 76),none,[6,10],false⟩,
 ⟨(some 78),.load false 1 (.s 77),none,[11],false⟩,
 sq 79 (.mv (.s 10)),
 sq 80 (.mv (.s 13)),
 sq 81 (.mv (.s 9)),
 ⟨(some 82),.bin .add .num (.s 80) (.s 81),none,[14,15],false⟩,
 ⟨(some 83),.bin .sub .num (.s 82) (.c (.int .i64 2)),none,[16],false⟩,
 ⟨(some 84),.idxA 1 (.s 79) (.s 83),none,[13,17],false⟩,
 ⟨(some 85),.load false 1 (.s 84),none,[18],false⟩,
 sq 86 (.mv (.s 11)),
 sq 87 (.mv (.s 9)),
 ⟨(some 88),.bin .sub .num (.s 87) (.c (.int .i64 1)),none,[21],false⟩,
 ⟨(some 89),.idxA 1 (.s 86) (.s 88),none,[20,22],false⟩,
 ⟨(some 90),.load false 1 (.s 89),none,[23],false⟩,
 sq 91 (.mv (.s 11)),
 sq 92 (.mv (.s 9)),
 ⟨(some 93),.bin .sub .num (.s 92) (.c (.int .i64 2)),none,[26],false⟩,
 ⟨(some 94),.idxA 1 (.s 91) (.s 93),none,[25,27],false⟩,
 ⟨(some 95),.load false 1 (.s 94),none,[28],false⟩,
 ⟨(some 96),.call (.c (.fn (.func 182) [] [])) [(.s 71),(.s 78),(.s 85),(.s 90),(.s 95)],none,[5,12,19,24,29],false⟩,
 ⟨(some 14),.mv (.s 96),none,[30,0,1,2,3,4,5,6,7,8,9,10,11,12,13,14,15,16,17,18,19,20,21,22,23,24,25,26,27,28,29],true⟩]
theorem i156d0t : tame i156d0 = true:=by kernel_rfl
def i156b0 : ICode :=
 (.seq (.seq (.reg [8,9,10,11,12,13] [sq 62 (.mv (.s 13)),
 sq 63 (.bin .geq .num (.s 62) (.c (.int .i64 0)))])
 (.cond (.s 63)
 .skip
 (.exit 0)))
 (.seq (.block 1
 (.seq (.draw [8,9,10,11,12,13] i156d0)
 (.seq (.reg [8,9,10,11,12,13,14] [sq 97 (.mv (.s 10)),
 sq 98 (.mv (.s 13)),
 sq 99 (.mv (.s 13)),
 sq 100 (.mv (.s 9)),
 sq 101 (.bin .add .num (.s 99) (.s 100)),
 sq 102 (.bin .add .num (.s 101) (.c (.int .i64 1))),
 sq 103 (.slice 1 (.s 97) (some (.s 98)) (some (.s 102)) none),
 sa 15 (.mv (.s 103))])
 (.seq (.seq (.reg [8,9,10,11,12,13,14,15] [sq 104 (.mv (.s 15)),
 sq 105 (.mv (.s 11)),
 sq 106 (.mv (.s 14)),
 sq 107 (.call (.c (.fn (.func 183) [] [])) [(.s 104),(.s 105),(.s 106)])])
 (.cond (.s 107)
 (.seq (.reg [8,9,10,11,12,13,14,15] [sq 108 (.mv (.s 14)),
 sq 109 (.bin .sub .num (.s 108) (.c (.int .u64 1))),
 sa 14 (.mv (.s 109))])
 (.reg [8,9,10,11,12,13,14,15] [sq 110 (.mv (.s 15)),
 sq 111 (.mv (.s 11)),
 sq 112 (.call (.c (.fn (.func 184) [] [])) [(.s 110),(.s 111)])]))
 .skip))
 (.reg [8,9,10,11,12,13,14] [sq 113 (.mv (.s 12)),
 sq 114 (.mv (.s 13)),
 sq 115 (.mv (.s 14)),
 sq 116 (.conv .u32 (.s 115)),
 sq 117 (.idxA 1 (.s 113) (.s 114)),
 se (.store 1 (.s 117) (.s 116))])))))
 (.reg [8,9,10,11,12,13] [sq 64 (.mv (.s 13)),
 sq 65 (.bin .sub .num (.s 64) (.c (.int .i64 1))),
 sa 13 (.mv (.s 65))])))
def i156 : IFn:={ nparams:=2,ntmps:=124,results:=[.tmp 4,.tmp 5],body :=
 (.seq (.reg [0,1] [sa 4 (.mv (.c (.sl .nil []))),
 sa 5 (.mv (.c (.sl .nil [])))])
 (.seq (.seq (.reg [0,1] [sq 16 (.mv (.s 0)),
 sq 17 (.mv (.s 1)),
 sq 18 (.call (.c (.fn (.func 176) [] [])) [(.s 16),(.s 17)]),
 sq 19 (.bin .lss .num (.s 18) (.c (.int .i64 0)))])
 (.cond (.s 19)
 (.seq (.reg [0] [sq 20 (.mv (.s 0)),
 sa 4 (.mv (.c (.sl .nil []))),
 sa 5 (.mv (.s 20))])
 .ret)
 .skip))
 (.seq (.seq (.reg [0,1] [sq 21 (.mv (.s 1)),
 sq 22 (.len false (.s 21)),
 sq 23 (.bin .eql .num (.s 22) (.c (.int .i64 1)))])
 (.cond (.s 23)
 (.seq (.reg [0,1] [sq 25 (.mv (.s 0)),
 sq 26 (.mv (.s 1)),
 sq 27 (.idxA 1 (.s 26) (.c (.int .i64 0))),
 sq 28 (.load false 1 (.s 27)),
 sq 29 (.call (.c (.fn (.func 179) [] [])) [(.s 25),(.s 28)]),
 sq 24 (.mv (.s 29)),
 sq 30 (.extr (.s 24) 0),
 sq 31 (.extr (.s 24) 1),
 sa 6 (.mv (.s 30)),
 sa 7 (.mv (.s 31))])
 (.seq (.reg [6,7] [sq 32 (.mv (.s 6)),
 sq 33 (.mv (.s 7)),
 sq 34 (.bsl 1 (.int .u32 0) 1 [(0,(.s 33))]),
 sq 35 (.call (.c (.fn (.func 165) [] [])) [(.s 34)]),
 sa 4 (.mv (.s 32)),
 sa 5 (.mv (.s 35))])
 .ret))
 .skip))
 (.seq (.reg [0,1] [sq 36 (.mv (.s 1)),
 sq 37 (.mv (.s 1)),
 sq 38 (.len false (.s 37)),
 sq 39 (.bin .sub .num (.s 38) (.c (.int .i64 1))),
 sq 40 (.idxA 1 (.s 36) (.s 39)),
 sq 41 (.load false 1 (.s 40)),
 sq 42 (.call (.c (.fn (.func 180) [] [])) [(.s 41)]),
 sa 8 (.mv (.s 42))])
 (.seq (.reg [0,1,8] [sq 43 (.mv (.s 1)),
 sq 44 (.len false (.s 43)),
 sa 9 (.mv (.s 44))])
 (.seq (.reg [0,1,8,9] [sq 45 (.mv (.s 0)),
 sq 46 (.mv (.s 8)),
 sq 47 (.call (.c (.fn (.func 181) [] [])) [(.s 45),(.s 46)]),
 sq 48 (.mv (.s 1)),
 sq 49 (.mv (.s 8)),
 sq 50 (.call (.c (.fn (.func 181) [] [])) [(.s 48),(.s 49)]),
 sq 51 (.call (.c (.fn (.func 165) [] [])) [(.s 50)]),
 sa 10 (.mv (.s 47)),
 sa 11 (.mv (.s 51))])
 (.seq (.reg [8,9,10,11] [sq 52 (.mv (.s 10)),
 sq 53 (.len false (.s 52)),
 sq 54 (.mv (.s 9)),
 sq 55 (.bin .sub .num (.s 53) (.s 54)),
 sq 56 (.mksl 1 4 (.int .u32 0) (.s 55) (.s 55)),
 sa 12 (.mv (.s 56))])
 (.seq (.seq (.reg [8,9,10,11,12] [sq 57 (.mv (.s 10)),
 sq 58 (.len false (.s 57)),
 sq 59 (.mv (.s 9)),
 sq 60 (.bin .sub .num (.s 58) (.s 59)),
 sq 61 (.bin .sub .num (.s 60) (.c (.int .i64 1))),
 sa 13 (.mv (.s 61))])
 (.block 0
 (.loop [8,9,10,11,12,13] i156b0)))
 (.seq (.reg [8,10,12] [sq 118 (.mv (.s 12)),
 sq 119 (.call (.c (.fn (.func 165) [] [])) [(.s 118)]),
 sq 120 (.mv (.s 10)),
 sq 121 (.call (.c (.fn (.func 165) [] [])) [(.s 120)]),
 sq 122 (.mv (.s 8)),
 sq 123 (.call (.c (.fn (.func 185) [] [])) [(.s 121),(.s 122)]),
 sa 4 (.mv (.s 119)),
 sa 5 (.mv (.s 123))])
 .ret))))))))) }
theorem tr156 : trF Tryz.prog h156 Tryz.f156 = some i156:=by kernel_rfl
def h157 : List (List Nat):=[[0],[1,2]]
def i157d0 : List IStep:=[sq 3 (.load true 2 (.s 1)),
 ⟨(some 4),.call (.c (.fn (.func 174) [] [])) [(.s 3)],none,[0],false⟩,
 ⟨(some 5),.un .not (.s 4),none,[1],false⟩,
 sq 6 (.load true 2 (.s 1)),
 ⟨(some 7),.call (.c (.fn (.func 129) [] [])) [(.s 6)],none,[3,1],false⟩,
 ⟨(some 8),.call (.c (.fn (.func 134) [] [])) [(.s 5),(.s 7)],none,[2,4],false⟩,
 ⟨none,.store 2 (.s 2) (.s 8),none,[5,0,1,2,3,4],false⟩]
theorem i157d0t : tame i157d0 = true:=by kernel_rfl
def i157 : IFn:={ nparams:=1,ntmps:=9,results:=[.cell 2 true 2],body :=
 (.seq (.reg [0] [sq 1 (.box 2 (.s 0)),
 sq 2 (.alloc 2 (.agg [(.bool false),(.sl .nil [])]))])
 (.seq (.draw [1,2] i157d0)
 .ret)) }
theorem tr157 : trF Tryz.prog h157 Tryz.f157 = some i157:=by kernel_rfl
def h158 : List (List Nat):=[[0,1],[0,3]]
def i158 : IFn:={ nparams:=2,ntmps:=8,results:=[.tmp 4],body :=
 (.seq (.reg [0,1] [sq 3 (.box 2 (.s 1)),
 sa 4 (.mv (.c (.sl .nil [])))])
 (.seq (.reg [0,3] [sq 5 (.mv (.s 0)),
 sq 6 (.mkfn (.func 186) [] [(.s 3)]),
 sq 7 (.call (.c (.fn (.func 132) [] [])) [(.s 5),(.s 6)]),
 sa 4 (.mv (.s 7))])
 .ret)) }
theorem tr158 : trF Tryz.prog h158 Tryz.f158 = some i158:=by kernel_rfl
def h159 : List (List Nat):=[[0],[0],[0],[0],[0],[0]]
def i159b0 : ICode :=
 (.seq (.seq (.reg [0] [sq 5 (.mv (.s 0)),
 sq 6 (.call (.c (.fn (.func 187) [] [])) [(.s 5)]),
 sq 7 (.un .not (.s 6))])
 (.cond (.s 7)
 .skip
 (.exit 0)))
 (.seq (.block 1
 .skip)
 (.reg [0] [sq 8 (.mv (.s 0)),
 sq 9 (.bin .sub .num (.s 8) (.c (.int .i64 1))),
 sa 0 (.mv (.s 9))])))
def i159 : IFn:={ nparams:=1,ntmps:=11,results:=[.tmp 2],body :=
 (.seq (.reg [0] [sa 2 (.mv (.c (.int .i64 0)))])
 (.seq (.seq (.reg [0] [sq 3 (.mv (.s 0)),
 sq 4 (.bin .sub .num (.s 3) (.c (.int .i64 1))),
 sa 0 (.mv (.s 4))])
 (.block 0
 (.loop [0] i159b0)))
 (.seq (.reg [0] [sq 10 (.mv (.s 0)),
 sa 2 (.mv (.s 10))])
 .ret))) }
theorem tr159 : trF Tryz.prog h159 Tryz.f159 = some i159:=by kernel_rfl
def h160 : List (List Nat):=[[0,1],[0,1],[0,1,5],[1,5,11,12,13],[1,5,11,12,13],[1,5,11,12,13],[1,5,6,7,11,12,13],[1,5,11,12,13],[5]]
def i160b0 : ICode :=
 (.seq (.reg [1,5,11,12,13] [sq 14 (.bin .lss .num (.s 13) (.s 12))])
 (.seq (.cond (.s 14)
 .skip
 (.exit 0))
 (.seq (.block 1
 (.seq (.reg [1,5,11,12,13] [sq 15 (.mv (.s 13)),
 sq 16 (.idxA 2 (.s 11) (.s 13)),
 sq 17 (.load true 2 (.s 16)),
 sq 7 (.alloc 2 (.agg [(.bool false),(.sl .nil [])])),
 sa 6 (.mv (.s 15)),
 se (.store 2 (.s 7) (.s 17))])
 (.reg [1,5,6,7,11,12,13] [sq 19 (.mv (.s 5)),
 sq 20 (.mv (.s 6)),
 sq 21 (.load true 2 (.s 7)),
 sq 22 (.mv (.s 1)),
 sq 23 (.call (.c (.fn (.func 162) [] [])) [(.s 21),(.s 22)]),
 sq 18 (.mv (.s 23)),
 sq 24 (.extr (.s 18) 0),
 sq 25 (.extr (.s 18) 1),
 sq 26 (.idxA 1 (.s 19) (.s 20)),
 se (.store 1 (.s 26) (.s 24))])))
 (.reg [1,5,11,12,13] [sq 27 (.bin .add .num (.s 13) (.c (.int .i64 1))),
 sq 13 (.mv (.s 27))]))))
def i160 : IFn:={ nparams:=2,ntmps:=30,results:=[.tmp 4],body :=
 (.seq (.reg [0,1] [sa 4 (.mv (.c (.sl .nil [])))])
 (.seq (.reg [0,1] [sq 8 (.mv (.s 0)),
 sq 9 (.len false (.s 8)),
 sq 10 (.mksl 1 8 (.int .i64 0) (.s 9) (.s 9)),
 sa 5 (.mv (.s 10))])
 (.seq (.seq (.reg [0,1,5] [sq 11 (.mv (.s 0)),
 sq 12 (.len false (.s 11)),
 sq 13 (.mv (.c (.int .i64 0)))])
 (.block 0
 (.loop [1,5,11,12,13] i160b0)))
 (.seq (.reg [5] [sq 28 (.mv (.s 5)),
 sq 29 (.call (.c (.fn (.func 188) [] [])) [(.s 28)]),
 sa 4 (.mv (.s 29))])
 .ret)))) }
theorem tr160 : trF Tryz.prog h160 Tryz.f160 = some i160:=by kernel_rfl
def h161 : List (List Nat):=[[0,1,2],[0,1,2],[0,1,2],[0,1,2],[0,2],[0,2],[0,2,7],[0,2,7,29,30],[0,2,7,29,30],[0,2,7,29,30],[0,2,7,8,29,30],[0,2,7,29,30],[0]]
def i161b0 : ICode :=
 (.seq (.seq (.reg [0,1,2] [sq 9 (.mv (.s 1)),
 sq 10 (.len false (.s 9)),
 sq 11 (.bin .gtr .num (.s 10) (.c (.int .i64 0)))])
 (.cond (.s 11)
 .skip
 (.exit 0)))
 (.block 1
 (.reg [0,1,2] [sq 12 (.mv (.s 1)),
 sq 13 (.mv (.s 0)),
 sq 14 (.mv (.s 1)),
 sq 15 (.mv (.s 2)),
 sq 16 (.call (.c (.fn (.func 189) [] [])) [(.s 13),(.s 14),(.s 15)]),
 sa 0 (.mv (.s 12)),
 sa 1 (.mv (.s 16))])))
def i161b1 : ICode :=
 (.seq (.reg [0,2,7,29,30] [sq 31 (.bin .lss .num (.s 30) (.s 29))])
 (.seq (.cond (.s 31)
 .skip
 (.exit 2))
 (.seq (.block 3
 (.seq (.reg [0,2,7,29,30] [sq 32 (.mv (.s 30)),
 sa 8 (.mv (.s 32))])
 (.reg [0,2,7,8,29,30] [sq 33 (.mv (.s 0)),
 sq 34 (.mv (.s 8)),
 sq 35 (.mv (.s 0)),
 sq 36 (.mv (.s 8)),
 sq 37 (.idxA 1 (.s 35) (.s 36)),
 sq 38 (.load false 1 (.s 37)),
 sq 39 (.mv (.s 7)),
 sq 40 (.mv (.s 2)),
 sq 41 (.call (.c (.fn (.func 163) [] [])) [(.s 38),(.s 39),(.s 40)]),
 sq 42 (.idxA 1 (.s 33) (.s 34)),
 se (.store 1 (.s 42) (.s 41))])))
 (.reg [0,2,7,29,30] [sq 43 (.bin .add .num (.s 30) (.c (.int .i64 1))),
 sq 30 (.mv (.s 43))]))))
def i161 : IFn:={ nparams:=3,ntmps:=45,results:=[.tmp 6],body :=
 (.seq (.reg [0,1,2] [sa 6 (.mv (.c (.sl .nil [])))])
 (.seq (.block 0
 (.loop [0,1,2] i161b0))
 (.seq (.seq (.reg [0,2] [sq 17 (.mv (.s 0)),
 sq 18 (.len false (.s 17)),
 sq 19 (.bin .gtr .num (.s 18) (.c (.int .i64 0)))])
 (.cond (.s 19)
 (.seq (.reg [0,2] [sq 20 (.mv (.s 0)),
 sq 21 (.mv (.s 0)),
 sq 22 (.len false (.s 21)),
 sq 23 (.bin .sub .num (.s 22) (.c (.int .i64 1))),
 sq 24 (.idxA 1 (.s 20) (.s 23)),
 sq 25 (.load false 1 (.s 24)),
 sq 26 (.mv (.s 2)),
 sq 27 (.call (.c (.fn (.func 190) [] [])) [(.s 25),(.s 26)]),
 sa 7 (.mv (.s 27))])
 (.seq (.reg [0,2,7] [sq 28 (.mv (.s 0)),
 sq 29 (.len false (.s 28)),
 sq 30 (.mv (.c (.int .i64 0)))])
 (.block 2
 (.loop [0,2,7,29,30] i161b1))))
 .skip))
 (.seq (.reg [0] [sq 44 (.mv (.s 0)),
 sa 6 (.mv (.s 44))])
 .ret)))) }
theorem tr161 : trF Tryz.prog h161 Tryz.f161 = some i161:=by kernel_rfl
def h162 : List (List Nat):=[[0,1],[1,2],[],[1,2],[1,2,7],[1,7],[7]]
def i162 : IFn:={ nparams:=2,ntmps:=34,results:=[.tmp 4,.tmp 5],body :=
 (.seq (.reg [0,1] [sq 2 (.box 2 (.s 0)),
 sa 4 (.mv (.c (.int .i64 0))),
 sa 5 (.mv (.c (.int .i64 0)))])
 (.seq (.seq (.reg [1,2] [sq 8 (.mv (.s 1)),
 sq 9 (.bin .lss .num (.s 8) (.c (.int .i64 1))),
 sq 10 (.mv (.s 9)),
 ⟨(some 11),.mv (.s 1),(some (10,false)),[],false⟩,
 ⟨(some 12),.bin .gtr .num (.s 11) (.c (.int .i64 2147483647)),(some (10,false)),[],false⟩,
 sq 13 (.pick (.s 10) (.c (.bool true)) (.s 12))])
 (.cond (.s 13)
 (.seq (.reg [] [sa 4 (.mv (.c (.int .i64 0))),
 sa 5 (.mv (.c (.int .i64 1)))])
 .ret)
 .skip))
 (.seq (.reg [1,2] [sq 15 (.load true 2 (.s 2)),
 sq 16 (.call (.c (.fn (.func 129) [] [])) [(.s 15)]),
 sq 17 (.mv (.s 1)),
 sq 18 (.conv .u32 (.s 17)),
 sq 19 (.call (.c (.fn (.func 179) [] [])) [(.s 16),(.s 18)]),
 sq 14 (.mv (.s 19)),
 sq 20 (.extr (.s 14) 0),
 sq 21 (.extr (.s 14) 1),
 sa 6 (.mv (.s 20)),
 sa 7 (.mv (.s 21))])
 (.seq (.seq (.reg [1,2,7] [sq 22 (.load true 2 (.s 2)),
 sq 23 (.call (.c (.fn (.func 174) [] [])) [(.s 22)]),
 sq 24 (.mv (.s 23)),
 ⟨(some 25),.mv (.s 7),(some (24,true)),[],false⟩,
 ⟨(some 26),.bin .gtr .num (.s 25) (.c (.int .u32 0)),(some (24,true)),[],false⟩,
 sq 27 (.pick (.s 24) (.s 26) (.c (.bool false)))])
 (.cond (.s 27)
 (.seq (.reg [1,7] [sq 28 (.mv (.s 1)),
 sq 29 (.mv (.s 7)),
 sq 30 (.conv .i64 (.s 29)),
 sq 31 (.bin .sub .num (.s 28) (.s 30)),
 sa 4 (.mv (.s 31)),
 sa 5 (.mv (.c (.int .i64 0)))])
 .ret)
 .skip))
 (.seq (.reg [7] [sq 32 (.mv (.s 7)),
 sq 33 (.conv .i64 (.s 32)),
 sa 4 (.mv (.s 33)),
 sa 5 (.mv (.c (.int .i64 0)))])
 .ret))))) }
theorem tr162 : trF Tryz.prog h162 Tryz.f162 = some i162:=by kernel_rfl
def h163 : List (List Nat):=[[0,1,2],[0,1,2]]
def i163 : IFn:={ nparams:=3,ntmps:=12,results:=[.tmp 6],body :=
 (.seq (.reg [0,1,2] [sa 6 (.mv (.c (.int .i64 0)))])
 (.seq (.reg [0,1,2] [sq 7 (.mv (.s 0)),
 sq 8 (.mv (.s 1)),
 sq 9 (.bin .mul .num (.s 7) (.s 8)),
 sq 10 (.mv (.s 2)),
 sq 11 (.bin .rem .num (.s 9) (.s 10)),
 sa 6 (.mv (.s 11))])
 .ret)) }
theorem tr163 : trF Tryz.prog h163 Tryz.f163 = some i163:=by kernel_rfl
def h165 : List (List Nat):=[[0],[0],[0,3],[0,3],[0,3],[0,3]]
def i165b0 : ICode :=
 (.seq (.seq (.reg [0,3] [sq 6 (.mv (.s 3)),
 sq 7 (.bin .gtr .num (.s 6) (.c (.int .i64 0))),
 sq 8 (.mv (.s 7)),
 ⟨(some 9),.mv (.s 0),(some (8,true)),[],false⟩,
 ⟨(some 10),.mv (.s 3),(some (8,true)),[],false⟩,
 ⟨(some 11),.bin .sub .num (.s 10) (.c (.int .i64 1)),(some (8,true)),[],false⟩,
 ⟨(some 12),.idxA 1 (.s 9) (.s 11),(some (8,true)),[],false⟩,
 ⟨(some 13),.load false 1 (.s 12),(some (8,true)),[],false⟩,
 ⟨(some 14),.bin .eql .num (.s 13) (.c (.int .u32 0)),(some (8,true)),[],false⟩,
 sq 15 (.pick (.s 8) (.s 14) (.c (.bool false)))])
 (.cond (.s 15)
 .skip
 (.exit 0)))
 (.block 1
 (.reg [0,3] [sq 16 (.mv (.s 3)),
 sq 17 (.bin .sub .num (.s 16) (.c (.int .i64 1))),
 sa 3 (.mv (.s 17))])))
def i165 : IFn:={ nparams:=1,ntmps:=21,results:=[.tmp 2],body :=
 (.seq (.reg [0] [sa 2 (.mv (.c (.sl .nil [])))])
 (.seq (.reg [0] [sq 4 (.mv (.s 0)),
 sq 5 (.len false (.s 4)),
 sa 3 (.mv (.s 5))])
 (.seq (.block 0
 (.loop [0,3] i165b0))
 (.seq (.reg [0,3] [sq 18 (.mv (.s 0)),
 sq 19 (.mv (.s 3)),
 sq 20 (.slice 1 (.s 18) none (some (.s 19)) none),
 sa 2 (.mv (.s 20))])
 .ret)))) }
theorem tr165 : trF Tryz.prog h165 Tryz.f165 = some i165:=by kernel_rfl
def h166 : List (List Nat):=[[0,1],[2,3,4,5],[2,3,4,5,7],[4,5],[2,3,4,5,7],[2,3,4,5,7,8,9],[2,3,4,5,7,8,9],[2,3,4,5,8,9]]
def i166d0 : List IStep:=[sq 37 (.load true 2 (.s 2)),
 ⟨(some 38),.call (.c (.fn (.func 174) [] [])) [(.s 37)],none,[0],false⟩,
 sq 39 (.load true 2 (.s 3)),
 ⟨(some 40),.call (.c (.fn (.func 174) [] [])) [(.s 39)],none,[2,1],false⟩,
 ⟨(some 41),.bin .neq .bool (.s 38) (.s 40),none,[1,3],false⟩,
 sq 42 (.mv (.s 8)),
 ⟨(some 43),.call (.c (.fn (.func 134) [] [])) [(.s 41),(.s 42)],none,[4,5,3],false⟩,
 sq 44 (.mv (.s 9)),
 ⟨(some 45),.call (.c (.fn (.func 134) [] [])) [(.c (.bool false)),(.s 44)],none,[7,6],false⟩,
 ⟨none,.store 2 (.s 4) (.s 43),none,[6,8,0,1,2,3,4,5],false⟩,
 ⟨none,.store 2 (.s 5) (.s 45),none,[8,9,0,1,2,3,4,5,6,7],false⟩,
 ⟨(some 6),.mv (.c (.int .i64 0)),none,[10,0,1,2,3,4,5,6,7,8,9],true⟩]
theorem i166d0t : tame i166d0 = true:=by kernel_rfl
def i166 : IFn:={ nparams:=2,ntmps:=46,results:=[.cell 4 true 2,.cell 5 true 2,.tmp 6],body :=
 (.seq (.reg [0,1] [sq 2 (.box 2 (.s 0)),
 sq 3 (.box 2 (.s 1)),
 sq 4 (.alloc 2 (.agg [(.bool false),(.sl .nil [])])),
 sq 5 (.alloc 2 (.agg [(.bool false),(.sl .nil [])])),
 sa 6 (.mv (.c (.int .i64 0)))])
 (.seq (.reg [2,3,4,5] [sq 10 (.load true 2 (.s 3)),
 sq 11 (.call (.c (.fn (.func 129) [] [])) [(.s 10)]),
 sa 7 (.mv (.s 11))])
 (.seq (.seq (.reg [2,3,4,5,7] [sq 12 (.mv (.s 7)),
 sq 13 (.len false (.s 12)),
 sq 14 (.bin .eql .num (.s 13) (.c (.int .i64 0)))])
 (.cond (.s 14)
 (.seq (.reg [4,5] [sq 15 (.build [(.bool false),(.sl .nil [])] []),
 sq 16 (.build [(.bool false),(.sl .nil [])] []),
 se (.store 2 (.s 4) (.s 15)),
 se (.store 2 (.s 5) (.s 16)),
 sa 6 (.mv (.c (.int .i64 2)))])
 .ret)
 .skip))
 (.seq (.reg [2,3,4,5,7] [sq 18 (.load true 2 (.s 2)),
 sq 19 (.call (.c (.fn (.func 129) [] [])) [(.s 18)]),
 sq 20 (.mv (.s 7)),
 sq 21 (.call (.c (.fn (.func 156) [] [])) [(.s 19),(.s 20)]),
 sq 17 (.mv (.s 21)),
 sq 22 (.extr (.s 17) 0),
 sq 23 (.extr (.s 17) 1),
 sa 8 (.mv (.s 22)),
 sa 9 (.mv (.s 23))])
 (.seq (.seq (.reg [2,3,4,5,7,8,9] [sq 24 (.load true 2 (.s 2)),
 sq 25 (.call (.c (.fn (.func 174) [] [])) [(.s 24)]),
 sq 26 (.mv (.s 25)),
 ⟨(some 27),.mv (.s 9),(some (26,true)),[],false⟩,
 ⟨(some 28),.len false (.s 27),(some (26,true)),[],false⟩,
 ⟨(some 29),.bin .gtr .num (.s 28) (.c (.int .i64 0)),(some (26,true)),[],false⟩,
 sq 30 (.pick (.s 26) (.s 29) (.c (.bool false)))])
 (.cond (.s 30)
 (.reg [2,3,4,5,7,8,9] [sq 31 (.mv (.s 8)),
 sq 32 (.bsl 1 (.int .u32 0) 1 [(0,(.c (.int .u32 1)))]),
 sq 33 (.call (.c (.fn (.func 177) [] [])) [(.s 31),(.s 32)]),
 sq 34 (.mv (.s 7)),
 sq 35 (.mv (.s 9)),
 sq 36 (.call (.c (.fn (.func 178) [] [])) [(.s 34),(.s 35)]),
 sa 8 (.mv (.s 33)),
 sa 9 (.mv (.s 36))])
 .skip))
 (.seq (.draw [2,3,4,5,8,9] i166d0)
 .ret)))))) }
theorem tr166 : trF Tryz.prog h166 Tryz.f166 = some i166:=by kernel_rfl
def h167 : List (List Nat):=[[0,1],[1,2]]
def i167d0 : List IStep:=[sq 5 (.mv (.s 1)),
 ⟨(some 6),.mksl 2 32 (.agg [(.bool false),(.sl .nil [])]) (.s 5) (.s 5),none,[0],false⟩,
 sq 7 (.load true 2 (.s 2)),
 ⟨(some 8),.bsl 2 (.agg [(.bool false),(.sl .nil [])]) 1 [(0,(.s 7))],none,[2],false⟩,
 ⟨(some 9),.app 2 32 (.s 6) (.s 8),none,[1,3],false⟩,
 ⟨(some 4),.mv (.s 9),none,[4,0,1,2,3],true⟩]
theorem i167d0t : tame i167d0 = false:=by kernel_rfl
def i167 : IFn:={ nparams:=2,ntmps:=10,results:=[.tmp 4],body :=
 (.seq (.reg [0,1] [sq 2 (.box 2 (.s 0)),
 sa 4 (.mv (.c (.sl .nil [])))])
 (.seq (.draw [1,2] i167d0)
 .ret)) }
theorem tr167 : trF Tryz.prog h167 Tryz.f167 = some i167:=by kernel_rfl
def h168 : List (List Nat):=[[0],[1,2]]
def i168 : IFn:={ nparams:=1,ntmps:=6,results:=[.cell 2 true 2],body :=
 (.seq (.reg [0] [sq 1 (.box 2 (.s 0)),
 sq 2 (.alloc 2 (.agg [(.bool false),(.sl .nil [])]))])
 (.seq (.reg [1,2] [sq 3 (.fldA 1 false 1 (.s 1)),
 sq 4 (.load false 1 (.s 3)),
 sq 5 (.build [(.bool false),(.sl .nil [])] [(0,1,(.c (.bool false))),(1,1,(.s 4))]),
 se (.store 2 (.s 2) (.s 5))])
 .ret)) }
theorem tr168 : trF Tryz.prog h168 Tryz.f168 = some i168:=by kernel_rfl
def h169 : List (List Nat):=[[0],[1,2]]
def i169 : IFn:={ nparams:=1,ntmps:=9,results:=[.cell 2 true 2],body :=
 (.seq (.reg [0] [sq 1 (.box 2 (.s 0)),
 sq 2 (.alloc 2 (.agg [(.bool false),(.sl .nil [])]))])
 (.seq (.reg [1,2] [sq 3 (.fldA 0 false 1 (.s 1)),
 sq 4 (.load false 1 (.s 3)),
 sq 5 (.un .not (.s 4)),
 sq 6 (.fldA 1 false 1 (.s 1)),
 sq 7 (.load false 1 (.s 6)),
 sq 8 (.call (.c (.fn (.func 79) [] [])) [(.s 5),(.s 7)]),
 se (.store 2 (.s 2) (.s 8))])
 .ret)) }
theorem tr169 : trF Tryz.prog h169 Tryz.f169 = some i169:=by kernel_rfl
def h170 : List (List Nat):=[[0,1],[0,3],[0,3,5],[0,3,5,6],[0,3,5,6],[0,3,5,6],[0,3,5,6,7],[0,3,5,6],[5]]
def i170d0 : List IStep:=[sq 16 (.mv (.s 0)),
 sq 17 (.mv (.s 6)),
 ⟨(some 18),.idxA 2 (.s 16) (.s 17),none,[0,1],false⟩,
 ⟨(some 19),.load true 2 (.s 18),none,[2],false⟩,
 sq 20 (.load true 2 (.s 3)),
 ⟨(some 21),.call (.c (.fn (.func 141) [] [])) [(.s 19),(.s 20)],none,[3,4],false⟩,
 ⟨(some 15),.mv (.s 21),none,[5],false⟩,
 ⟨(some 22),.extr (.s 15) 0,none,[6],false⟩,
 ⟨(some 23),.extr (.s 15) 1,none,[6],false⟩,
 sq 7 (.alloc 2 (.agg [(.bool false),(.sl .nil [])])),
 sq 8 (.alloc 2 (.agg [(.bool false),(.sl .nil [])])),
 ⟨none,.store 2 (.s 7) (.s 22),none,[9,7,5,0,1,2,3,4,6,10],false⟩,
 ⟨none,.store 2 (.s 8) (.s 23),none,[10,8,11,0,1,2,3,4,5,6,7,9],false⟩]
theorem i170d0t : tame i170d0 = false:=by kernel_rfl
def i170b0 : ICode :=
 (.seq (.seq (.reg [0,3,5,6] [sq 9 (.mv (.s 6)),
 sq 10 (.mv (.s 0)),
 sq 11 (.len false (.s 10)),
 sq 12 (.bin .lss .num (.s 9) (.s 11))])
 (.cond (.s 12)
 .skip
 (.exit 0)))
 (.seq (.block 1
 (.seq (.draw [0,3,5,6] i170d0)
 (.reg [0,3,5,6,7] [sq 24 (.mv (.s 5)),
 sq 25 (.load true 2 (.s 7)),
 sq 26 (.bsl 2 (.agg [(.bool false),(.sl .nil [])]) 1 [(0,(.s 25))]),
 sq 27 (.app 2 32 (.s 24) (.s 26)),
 sa 5 (.mv (.s 27))])))
 (.reg [0,3,5,6] [sq 13 (.mv (.s 6)),
 sq 14 (.bin .add .num (.s 13) (.c (.int .i64 1))),
 sa 6 (.mv (.s 14))])))
def i170 : IFn:={ nparams:=2,ntmps:=30,results:=[.tmp 4],body :=
 (.seq (.reg [0,1] [sq 3 (.box 2 (.s 1)),
 sa 4 (.mv (.c (.sl .nil [])))])
 (.seq (.reg [0,3] [sa 5 (.mv (.c (.sl .nil [])))])
 (.seq (.seq (.reg [0,3,5] [sa 6 (.mv (.c (.int .i64 0)))])
 (.block 0
 (.loop [0,3,5,6] i170b0)))
 (.seq (.reg [5] [sq 28 (.mv (.s 5)),
 sq 29 (.call (.c (.fn (.func 80) [] [])) [(.s 28)]),
 sa 4 (.mv (.s 29))])
 .ret)))) }
theorem tr170 : trF Tryz.prog h170 Tryz.f170 = some i170:=by kernel_rfl
def h171 : List (List Nat):=[[0,1],[0,1],[0],[0,1],[0,1],[6,7],[0,1],[0,1,8],[1,8,9],[8,9,10],[8,9,10,11],[8,9,10,11,12],[8,9,10,11,12,13],[8,9,10,11,12,13],[8,9,10,11,12,13],[8,9,10,11,12,13,14],[8,9,10,11,12,13,15],[8,9,10,11,12,13],[8,9,10,11,12,13,15],[8,9,10,11,12,13,15],[8,9,10,11,12,13,15,16],[8,9,10,11,12,13,15,16,17],[8,9,10,11,12,13,15,16,17,18],[8,9,10,11,12,13,15,16,17,18,19],[8,9,10,11,12,13,15,16,17,18,19],[8,9,10,11,12,13,15,16,17,18,19],[8,9,10,11,12,13,15,16,17,18,19],[8,9,10,11,12,13,15,16,17,18,19],[8,9,10,11,12,13,15,16,18,19,20],[8,9,10,11,12,13,15,16,18,19,20],[8,9,10,11,12,13,15,16,17,18,19,20],[8,9,10,11,12,13,15,16,18,19,20],[8,9,10,11,12,13,15,16,18,19,20],[8,9,10,11,12,13,15,16,17,18,19,20],[8,9,10,11,12,13,15,16,17,18,19],[8,9,10,11,12,13,15,17,18],[8,9,10,11,12,13,15,18],[8,9,10,11,12,13,15,18,21],[8,9,10,11,12,13,15,18,21],[8,9,10,11,12,13,15,18,21],[8,9,10,11,12,13,15,18,21],[8,9,10,11,12,13,15],[8,9,10,11,12,13,15],[8,9,10,11,12,13],[8,9,12],[12,22]]
def i171d0 : List IStep:=[sq 75 (.mv (.s 9)),
 sq 76 (.mv (.s 13)),
 sq 77 (.mv (.s 11)),
 ⟨(some 78),.bin .add .num (.s 76) (.s 77),none,[1,2],false⟩,
 ⟨(some 79),.idxA 1 (.s 75) (.s 78),none,[0,3],false⟩,
 ⟨(some 80),.load false 1 (.s 79),none,[4],false⟩,
 ⟨(some 81),.bin .mul .num (.s 80) (.c (.int .i64 65536)),none,[5],false⟩,
 sq 82 (.mv (.s 9)),
 sq 83 (.mv (.s 13)),
 sq 84 (.mv (.s 11)),
 ⟨(some 85),.bin .add .num (.s 83) (.s 84),none,[8,9],false⟩,
 ⟨(some 86),.bin .sub .num (.s 85) (.c (.int .i64 1)),none,[10],false⟩,
 ⟨(some 87),.idxA 1 (.s 82) (.s 86),none,[7,11],false⟩,
 ⟨(some 88),.load false 1 (.s 87),none,[12],false⟩,
 ⟨(some 89),.bin .add .num (.s 81) (.s 88),none,[6,13],false⟩,
 ⟨(some 14),.mv (.s 89),none,[14,0,1,2,3,4,5,6,7,8,9,10,11,12,13],true⟩]
theorem i171d0t : tame i171d0 = true:=by kernel_rfl
def i171b0 : ICode :=
 (.seq (.seq (.reg [8,9,10,11,12,13,15,16,17,18,19] [sq 102 (.mv (.s 19)),
 sq 103 (.mv (.s 11)),
 sq 104 (.bin .leq .num (.s 102) (.s 103))])
 (.cond (.s 104)
 .skip
 (.exit 4)))
 (.seq (.block 5
 (.seq (.seq (.reg [8,9,10,11,12,13,15,16,17,18,19] [sq 107 (.mv (.s 19)),
 sq 108 (.mv (.s 11)),
 sq 109 (.bin .lss .num (.s 107) (.s 108))])
 (.cond (.s 109)
 (.reg [8,9,10,11,12,13,15,16,17,18,19] [sq 110 (.mv (.s 16)),
 sq 111 (.mv (.s 10)),
 sq 112 (.mv (.s 19)),
 sq 113 (.idxA 1 (.s 111) (.s 112)),
 sq 114 (.load false 1 (.s 113)),
 sq 115 (.mv (.s 15)),
 sq 116 (.bin .mul .num (.s 114) (.s 115)),
 sq 117 (.bin .add .num (.s 110) (.s 116)),
 sa 16 (.mv (.s 117))])
 .skip))
 (.seq (.reg [8,9,10,11,12,13,15,16,17,18,19] [sq 118 (.mv (.s 9)),
 sq 119 (.mv (.s 13)),
 sq 120 (.mv (.s 19)),
 sq 121 (.bin .add .num (.s 119) (.s 120)),
 sq 122 (.idxA 1 (.s 118) (.s 121)),
 sq 123 (.load false 1 (.s 122)),
 sq 124 (.mv (.s 16)),
 sq 125 (.bin .rem .num (.s 124) (.c (.int .i64 65536))),
 sq 126 (.bin .sub .num (.s 123) (.s 125)),
 sq 127 (.mv (.s 17)),
 sq 128 (.bin .sub .num (.s 126) (.s 127)),
 sa 20 (.mv (.s 128))])
 (.seq (.reg [8,9,10,11,12,13,15,16,18,19,20] [sq 129 (.mv (.s 16)),
 sq 130 (.bin .quo .num (.s 129) (.c (.int .i64 65536))),
 sa 16 (.mv (.s 130))])
 (.seq (.reg [8,9,10,11,12,13,15,16,18,19,20] [sa 17 (.mv (.c (.int .i64 0)))])
 (.seq (.seq (.reg [8,9,10,11,12,13,15,16,17,18,19,20] [sq 131 (.mv (.s 20)),
 sq 132 (.bin .lss .num (.s 131) (.c (.int .i64 0)))])
 (.cond (.s 132)
 (.seq (.reg [8,9,10,11,12,13,15,16,18,19,20] [sq 133 (.mv (.s 20)),
 sq 134 (.bin .add .num (.s 133) (.c (.int .i64 65536))),
 sa 20 (.mv (.s 134))])
 (.reg [8,9,10,11,12,13,15,16,18,19,20] [sa 17 (.mv (.c (.int .i64 1)))]))
 .skip))
 (.reg [8,9,10,11,12,13,15,16,17,18,19,20] [sq 135 (.mv (.s 18)),
 sq 136 (.mv (.s 19)),
 sq 137 (.mv (.s 20)),
 sq 138 (.idxA 1 (.s 135) (.s 136)),
 se (.store 1 (.s 138) (.s 137))])))))))
 (.reg [8,9,10,11,12,13,15,16,17,18,19] [sq 105 (.mv (.s 19)),
 sq 106 (.bin .add .num (.s 105) (.c (.int .i64 1))),
 sa 19 (.mv (.s 106))])))
def i171b1 : ICode :=
 (.seq (.seq (.reg [8,9,10,11,12,13,15,18,21] [sq 141 (.mv (.s 21)),
 sq 142 (.mv (.s 11)),
 sq 143 (.bin .leq .num (.s 141) (.s 142))])
 (.cond (.s 143)
 .skip
 (.exit 6)))
 (.seq (.block 7
 (.reg [8,9,10,11,12,13,15,18,21] [sq 146 (.mv (.s 9)),
 sq 147 (.mv (.s 13)),
 sq 148 (.mv (.s 21)),
 sq 149 (.bin .add .num (.s 147) (.s 148)),
 sq 150 (.mv (.s 18)),
 sq 151 (.mv (.s 21)),
 sq 152 (.idxA 1 (.s 150) (.s 151)),
 sq 153 (.load false 1 (.s 152)),
 sq 154 (.idxA 1 (.s 146) (.s 149)),
 se (.store 1 (.s 154) (.s 153))]))
 (.reg [8,9,10,11,12,13,15,18,21] [sq 144 (.mv (.s 21)),
 sq 145 (.bin .add .num (.s 144) (.c (.int .i64 1))),
 sa 21 (.mv (.s 145))])))
def i171b2 : ICode :=
 (.block 3
 (.seq (.reg [8,9,10,11,12,13,15] [sa 16 (.mv (.c (.int .i64 0)))])
 (.seq (.reg [8,9,10,11,12,13,15,16] [sa 17 (.mv (.c (.int .i64 0)))])
 (.seq (.reg [8,9,10,11,12,13,15,16,17] [sq 99 (.mv (.s 11)),
 sq 100 (.bin .add .num (.s 99) (.c (.int .i64 1))),
 sq 101 (.mksl 1 8 (.int .i64 0) (.s 100) (.s 100)),
 sa 18 (.mv (.s 101))])
 (.seq (.seq (.reg [8,9,10,11,12,13,15,16,17,18] [sa 19 (.mv (.c (.int .i64 0)))])
 (.block 4
 (.loop [8,9,10,11,12,13,15,16,17,18,19] i171b0)))
 (.seq (.seq (.reg [8,9,10,11,12,13,15,17,18] [sq 139 (.mv (.s 17)),
 sq 140 (.bin .eql .num (.s 139) (.c (.int .i64 0)))])
 (.cond (.s 140)
 (.seq (.seq (.reg [8,9,10,11,12,13,15,18] [sa 21 (.mv (.c (.int .i64 0)))])
 (.block 6
 (.loop [8,9,10,11,12,13,15,18,21] i171b1)))
 (.exit 2))
 .skip))
 (.reg [8,9,10,11,12,13,15] [sq 155 (.mv (.s 15)),
 sq 156 (.bin .sub .num (.s 155) (.c (.int .i64 1))),
 sa 15 (.mv (.s 156))])))))))
def i171b3 : ICode :=
 (.seq (.seq (.reg [8,9,10,11,12,13] [sq 71 (.mv (.s 13)),
 sq 72 (.bin .geq .num (.s 71) (.c (.int .i64 0)))])
 (.cond (.s 72)
 .skip
 (.exit 0)))
 (.seq (.block 1
 (.seq (.draw [8,9,10,11,12,13] i171d0)
 (.seq (.reg [8,9,10,11,12,13,14] [sq 90 (.mv (.s 14)),
 sq 91 (.mv (.s 10)),
 sq 92 (.mv (.s 11)),
 sq 93 (.bin .sub .num (.s 92) (.c (.int .i64 1))),
 sq 94 (.idxA 1 (.s 91) (.s 93)),
 sq 95 (.load false 1 (.s 94)),
 sq 96 (.bin .quo .num (.s 90) (.s 95)),
 sa 15 (.mv (.s 96))])
 (.seq (.seq (.reg [8,9,10,11,12,13,15] [sq 97 (.mv (.s 15)),
 sq 98 (.bin .geq .num (.s 97) (.c (.int .i64 65536)))])
 (.cond (.s 98)
 (.reg [8,9,10,11,12,13] [sa 15 (.mv (.c (.int .i64 65535)))])
 .skip))
 (.seq (.block 2
 (.loop [8,9,10,11,12,13,15] i171b2))
 (.reg [8,9,10,11,12,13,15] [sq 157 (.mv (.s 12)),
 sq 158 (.mv (.s 13)),
 sq 159 (.mv (.s 15)),
 sq 160 (.idxA 1 (.s 157) (.s 158)),
 se (.store 1 (.s 160) (.s 159))]))))))
 (.reg [8,9,10,11,12,13] [sq 73 (.mv (.s 13)),
 sq 74 (.bin .sub .num (.s 73) (.c (.int .i64 1))),
 sa 13 (.mv (.s 74))])))
def i171 : IFn:={ nparams:=2,ntmps:=171,results:=[.tmp 4,.tmp 5],body :=
 (.seq (.reg [0,1] [sa 4 (.mv (.c (.sl .nil []))),
 sa 5 (.mv (.c (.sl .nil [])))])
 (.seq (.seq (.reg [0,1] [sq 24 (.mv (.s 0)),
 sq 25 (.mv (.s 1)),
 sq 26 (.call (.c (.fn (.func 149) [] [])) [(.s 24),(.s 25)]),
 sq 27 (.bin .lss .num (.s 26) (.c (.int .i64 0)))])
 (.cond (.s 27)
 (.seq (.reg [0] [sq 28 (.mv (.s 0)),
 sa 4 (.mv (.c (.sl .nil []))),
 sa 5 (.mv (.s 28))])
 .ret)
 .skip))
 (.seq (.seq (.reg [0,1] [sq 29 (.mv (.s 1)),
 sq 30 (.len false (.s 29)),
 sq 31 (.bin .eql .num (.s 30) (.c (.int .i64 1)))])
 (.cond (.s 31)
 (.seq (.reg [0,1] [sq 33 (.mv (.s 0)),
 sq 34 (.mv (.s 1)),
 sq 35 (.idxA 1 (.s 34) (.c (.int .i64 0))),
 sq 36 (.load false 1 (.s 35)),
 sq 37 (.call (.c (.fn (.func 191) [] [])) [(.s 33),(.s 36)]),
 sq 32 (.mv (.s 37)),
 sq 38 (.extr (.s 32) 0),
 sq 39 (.extr (.s 32) 1),
 sa 6 (.mv (.s 38)),
 sa 7 (.mv (.s 39))])
 (.seq (.reg [6,7] [sq 40 (.mv (.s 6)),
 sq 41 (.mv (.s 7)),
 sq 42 (.bsl 1 (.int .i64 0) 1 [(0,(.s 41))]),
 sa 4 (.mv (.s 40)),
 sa 5 (.mv (.s 42))])
 .ret))
 .skip))
 (.seq (.reg [0,1] [sq 43 (.mv (.s 1)),
 sq 44 (.mv (.s 1)),
 sq 45 (.len false (.s 44)),
 sq 46 (.bin .sub .num (.s 45) (.c (.int .i64 1))),
 sq 47 (.idxA 1 (.s 43) (.s 46)),
 sq 48 (.load false 1 (.s 47)),
 sq 49 (.bin .add .num (.s 48) (.c (.int .i64 1))),
 sq 50 (.bin .quo .num (.c (.int .i64 65536)) (.s 49)),
 sa 8 (.mv (.s 50))])
 (.seq (.reg [0,1,8] [sq 51 (.mv (.s 0)),
 sq 52 (.mv (.s 8)),
 sq 53 (.call (.c (.fn (.func 192) [] [])) [(.s 51),(.s 52)]),
 sa 9 (.mv (.s 53))])
 (.seq (.reg [1,8,9] [sq 54 (.mv (.s 1)),
 sq 55 (.mv (.s 8)),
 sq 56 (.call (.c (.fn (.func 192) [] [])) [(.s 54),(.s 55)]),
 sq 57 (.call (.c (.fn (.func 79) [] [])) [(.c (.bool false)),(.s 56)]),
 sq 58 (.fld 1 false 1 (.s 57)),
 sa 10 (.mv (.s 58))])
 (.seq (.reg [8,9,10] [sq 59 (.mv (.s 10)),
 sq 60 (.len false (.s 59)),
 sa 11 (.mv (.s 60))])
 (.seq (.reg [8,9,10,11] [sq 61 (.mv (.s 9)),
 sq 62 (.len false (.s 61)),
 sq 63 (.mv (.s 11)),
 sq 64 (.bin .sub .num (.s 62) (.s 63)),
 sq 65 (.mksl 1 8 (.int .i64 0) (.s 64) (.s 64)),
 sa 12 (.mv (.s 65))])
 (.seq (.seq (.reg [8,9,10,11,12] [sq 66 (.mv (.s 9)),
 sq 67 (.len false (.s 66)),
 sq 68 (.mv (.s 11)),
 sq 69 (.bin .sub .num (.s 67) (.s 68)),
 sq 70 (.bin .sub .num (.s 69) (.c (.int .i64 1))),
 sa 13 (.mv (.s 70))])
 (.block 0
 (.loop [8,9,10,11,12,13] i171b3)))
 (.seq (.reg [8,9,12] [sq 162 (.mv (.s 9)),
 sq 163 (.call (.c (.fn (.func 79) [] [])) [(.c (.bool false)),(.s 162)]),
 sq 164 (.fld 1 false 1 (.s 163)),
 sq 165 (.mv (.s 8)),
 sq 166 (.call (.c (.fn (.func 191) [] [])) [(.s 164),(.s 165)]),
 sq 161 (.mv (.s 166)),
 sq 167 (.extr (.s 161) 0),
 sq 168 (.extr (.s 161) 1),
 sa 22 (.mv (.s 167)),
 sa 23 (.mv (.s 168))])
 (.seq (.reg [12,22] [sq 169 (.mv (.s 12)),
 sq 170 (.mv (.s 22)),
 sa 4 (.mv (.s 169)),
 sa 5 (.mv (.s 170))])
 .ret))))))))))) }
theorem tr171 : trF Tryz.prog h171 Tryz.f171 = some i171:=by kernel_rfl
def h172 : List (List Nat):=[[0,1],[2,3,4]]
def i172d0 : List IStep:=[sq 5 (.load true 2 (.s 2)),
 sq 6 (.load true 2 (.s 3)),
 ⟨(some 7),.call (.c (.fn (.func 169) [] [])) [(.s 6)],none,[1],false⟩,
 ⟨(some 8),.call (.c (.fn (.func 101) [] [])) [(.s 5),(.s 7)],none,[0,2],false⟩,
 ⟨none,.store 2 (.s 4) (.s 8),none,[3,0,1,2],false⟩]
theorem i172d0t : tame i172d0 = true:=by kernel_rfl
def i172 : IFn:={ nparams:=2,ntmps:=9,results:=[.cell 4 true 2],body :=
 (.seq (.reg [0,1] [sq 2 (.box 2 (.s 0)),
 sq 3 (.box 2 (.s 1)),
 sq 4 (.alloc 2 (.agg [(.bool false),(.sl .nil [])]))])
 (.seq (.draw [2,3,4] i172d0)
 .ret)) }
theorem tr172 : trF Tryz.prog h172 Tryz.f172 = some i172:=by kernel_rfl
def h173 : List (List Nat):=[[0,1],[0,1,4],[0,1,4],[4]]
def i173 : IFn:={ nparams:=2,ntmps:=14,results:=[.cell 4 true 2],body :=
 (.seq (.reg [0,1] [sq 4 (.alloc 2 (.agg [(.bool false),(.sl .nil [])]))])
 (.seq (.seq (.reg [0,1,4] [sq 5 (.mv (.s 1)),
 sq 6 (.mv (.s 0)),
 sq 7 (.len false (.s 6)),
 sq 8 (.bin .lss .num (.s 5) (.s 7))])
 (.cond (.s 8)
 (.seq (.reg [0,1,4] [sq 9 (.mv (.s 0)),
 sq 10 (.mv (.s 1)),
 sq 11 (.idxA 2 (.s 9) (.s 10)),
 sq 12 (.load true 2 (.s 11)),
 se (.store 2 (.s 4) (.s 12))])
 .ret)
 .skip))
 (.seq (.reg [4] [sq 13 (.build [(.bool false),(.sl .nil [])] []),
 se (.store 2 (.s 4) (.s 13))])
 .ret))) }
theorem tr173 : trF Tryz.prog h173 Tryz.f173 = some i173:=by kernel_rfl
def h174 : List (List Nat):=[[0],[1]]
def i174 : IFn:={ nparams:=1,ntmps:=11,results:=[.tmp 2],body :=
 (.seq (.reg [0] [sq 1 (.box 2 (.s 0)),
 sa 2 (.mv (.c (.bool false)))])
 (.seq (.reg [1] [sq 3 (.fldA 0 false 1 (.s 1)),
 sq 4 (.load false 1 (.s 3)),
 sq 5 (.mv (.s 4)),
 ⟨(some 6),.load true 2 (.s 1),(some (5,true)),[],false⟩,
 ⟨(some 7),.call (.c (.fn (.func 129) [] [])) [(.s 6)],(some (5,true)),[],false⟩,
 ⟨(some 8),.len false (.s 7),(some (5,true)),[],false⟩,
 ⟨(some 9),.bin .gtr .num (.s 8) (.c (.int .i64 0)),(some (5,true)),[],false⟩,
 sq 10 (.pick (.s 5) (.s 9) (.c (.bool false))),
 sa 2 (.mv (.s 10))])
 .ret)) }
theorem tr174 : trF Tryz.prog h174 Tryz.f174 = some i174:=by kernel_rfl
def h175 : List (List Nat):=[[0,1],[0,1],[0,1],[0,1],[0,1],[0,1],[0,1,5],[1,5,6,7],[1,5,6,7],[1,5,6,7],[5,6,7,8,9],[5,6,7,8,9,10,11],[5,10,11,12]]
def i175d0 : List IStep:=[sq 30 (.mv (.s 0)),
 sq 31 (.mv (.s 5)),
 ⟨(some 32),.slice 1 (.s 30) none (some (.s 31)) none,none,[0,1],false⟩,
 ⟨(some 33),.call (.c (.fn (.func 165) [] [])) [(.s 32)],none,[2],false⟩,
 sq 34 (.mv (.s 0)),
 sq 35 (.mv (.s 5)),
 ⟨(some 36),.slice 1 (.s 34) (some (.s 35)) none none,none,[4,5],false⟩,
 ⟨(some 6),.mv (.s 33),none,[3,0,1,2],true⟩,
 ⟨(some 7),.mv (.s 36),none,[6,7,0,1,2,3,4,5],true⟩]
theorem i175d0t : tame i175d0 = true:=by kernel_rfl
def i175d1 : List IStep:=[sq 50 (.mv (.s 1)),
 sq 51 (.mv (.s 5)),
 ⟨(some 52),.slice 1 (.s 50) none (some (.s 51)) none,none,[0,1],false⟩,
 ⟨(some 53),.call (.c (.fn (.func 165) [] [])) [(.s 52)],none,[2],false⟩,
 sq 54 (.mv (.s 1)),
 sq 55 (.mv (.s 5)),
 ⟨(some 56),.slice 1 (.s 54) (some (.s 55)) none none,none,[4,5],false⟩,
 ⟨(some 8),.mv (.s 53),none,[3,0,1,2],true⟩,
 ⟨(some 9),.mv (.s 56),none,[6,7,0,1,2,3,4,5],true⟩]
theorem i175d1t : tame i175d1 = true:=by kernel_rfl
def i175 : IFn:={ nparams:=2,ntmps:=84,results:=[.tmp 4],body :=
 (.seq (.reg [0,1] [sa 4 (.mv (.c (.sl .nil [])))])
 (.seq (.seq (.reg [0,1] [sq 13 (.mv (.s 0)),
 sq 14 (.len false (.s 13)),
 sq 15 (.mv (.s 1)),
 sq 16 (.len false (.s 15)),
 sq 17 (.bin .lss .num (.s 14) (.s 16))])
 (.cond (.s 17)
 (.reg [0,1] [sq 18 (.mv (.s 1)),
 sq 19 (.mv (.s 0)),
 sa 0 (.mv (.s 18)),
 sa 1 (.mv (.s 19))])
 .skip))
 (.seq (.seq (.reg [0,1] [sq 20 (.mv (.s 1)),
 sq 21 (.len false (.s 20)),
 sq 22 (.bin .lss .num (.s 21) (.c (.int .i64 40)))])
 (.cond (.s 22)
 (.seq (.reg [0,1] [sq 23 (.mv (.s 0)),
 sq 24 (.mv (.s 1)),
 sq 25 (.call (.c (.fn (.func 193) [] [])) [(.s 23),(.s 24)]),
 sa 4 (.mv (.s 25))])
 .ret)
 .skip))
 (.seq (.reg [0,1] [sq 26 (.mv (.s 0)),
 sq 27 (.len false (.s 26)),
 sq 28 (.bin .add .num (.s 27) (.c (.int .i64 1))),
 sq 29 (.bin .quo .num (.s 28) (.c (.int .i64 2))),
 sa 5 (.mv (.s 29))])
 (.seq (.draw [0,1,5] i175d0)
 (.seq (.seq (.reg [1,5,6,7] [sq 37 (.mv (.s 1)),
 sq 38 (.len false (.s 37)),
 sq 39 (.mv (.s 5)),
 sq 40 (.bin .leq .num (.s 38) (.s 39))])
 (.cond (.s 40)
 (.seq (.reg [1,5,6,7] [sq 41 (.mv (.s 6)),
 sq 42 (.mv (.s 1)),
 sq 43 (.call (.c (.fn (.func 175) [] [])) [(.s 41),(.s 42)]),
 sq 44 (.mv (.s 7)),
 sq 45 (.mv (.s 1)),
 sq 46 (.call (.c (.fn (.func 175) [] [])) [(.s 44),(.s 45)]),
 sq 47 (.mv (.s 5)),
 sq 48 (.call (.c (.fn (.func 194) [] [])) [(.s 46),(.s 47)]),
 sq 49 (.call (.c (.fn (.func 177) [] [])) [(.s 43),(.s 48)]),
 sa 4 (.mv (.s 49))])
 .ret)
 .skip))
 (.seq (.draw [1,5,6,7] i175d1)
 (.seq (.reg [5,6,7,8,9] [sq 57 (.mv (.s 6)),
 sq 58 (.mv (.s 8)),
 sq 59 (.call (.c (.fn (.func 175) [] [])) [(.s 57),(.s 58)]),
 sq 60 (.mv (.s 7)),
 sq 61 (.mv (.s 9)),
 sq 62 (.call (.c (.fn (.func 175) [] [])) [(.s 60),(.s 61)]),
 sa 10 (.mv (.s 59)),
 sa 11 (.mv (.s 62))])
 (.seq (.reg [5,6,7,8,9,10,11] [sq 63 (.mv (.s 6)),
 sq 64 (.mv (.s 7)),
 sq 65 (.call (.c (.fn (.func 177) [] [])) [(.s 63),(.s 64)]),
 sq 66 (.mv (.s 8)),
 sq 67 (.mv (.s 9)),
 sq 68 (.call (.c (.fn (.func 177) [] [])) [(.s 66),(.s 67)]),
 sq 69 (.call (.c (.fn (.func 175) [] [])) [(.s 65),(.s 68)]),
 sq 70 (.mv (.s 10)),
 sq 71 (.call (.c (.fn (.func 178) [] [])) [(.s 69),(.s 70)]),
 sq 72 (.mv (.s 11)),
 sq 73 (.call (.c (.fn (.func 178) [] [])) [(.s 71),(.s 72)]),
 sa 12 (.mv (.s 73))])
 (.seq (.reg [5,10,11,12] [sq 74 (.mv (.s 10)),
 sq 75 (.mv (.s 12)),
 sq 76 (.mv (.s 5)),
 sq 77 (.call (.c (.fn (.func 194) [] [])) [(.s 75),(.s 76)]),
 sq 78 (.call (.c (.fn (.func 177) [] [])) [(.s 74),(.s 77)]),
 sq 79 (.mv (.s 11)),
 sq 80 (.mv (.s 5)),
 sq 81 (.bin .mul .num (.c (.int .i64 2)) (.s 80)),
 sq 82 (.call (.c (.fn (.func 194) [] [])) [(.s 79),(.s 81)]),
 sq 83 (.call (.c (.fn (.func 177) [] [])) [(.s 78),(.s 82)]),
 sa 4 (.mv (.s 83))])
 .ret)))))))))) }
theorem tr175 : trF Tryz.prog h175 Tryz.f175 = some i175:=by kernel_rfl
def h176 : List (List Nat):=[[0,1],[0,1],[0,1],[],[],[0,1],[0,1,5],[0,1,5],[0,1,5],[0,1,5],[],[],[0,1,5],[]]
def i176d0 : List IStep:=[sq 23 (.mv (.s 0)),
 sq 24 (.mv (.s 5)),
 ⟨(some 25),.idxA 1 (.s 23) (.s 24),none,[0,1],false⟩,
 ⟨(some 26),.load false 1 (.s 25),none,[2],false⟩,
 sq 27 (.mv (.s 1)),
 sq 28 (.mv (.s 5)),
 ⟨(some 29),.idxA 1 (.s 27) (.s 28),none,[4,5],false⟩,
 ⟨(some 30),.load false 1 (.s 29),none,[6],false⟩,
 ⟨(some 31),.bin .neq .num (.s 26) (.s 30),none,[3,7],false⟩]
theorem i176d0t : tame i176d0 = true:=by kernel_rfl
def i176d1 : List IStep:=[sq 32 (.mv (.s 0)),
 sq 33 (.mv (.s 5)),
 ⟨(some 34),.idxA 1 (.s 32) (.s 33),none,[0,1],false⟩,
 ⟨(some 35),.load false 1 (.s 34),none,[2],false⟩,
 sq 36 (.mv (.s 1)),
 sq 37 (.mv (.s 5)),
 ⟨(some 38),.idxA 1 (.s 36) (.s 37),none,[4,5],false⟩,
 ⟨(some 39),.load false 1 (.s 38),none,[6],false⟩,
 ⟨(some 40),.bin .lss .num (.s 35) (.s 39),none,[3,7],false⟩]
theorem i176d1t : tame i176d1 = true:=by kernel_rfl
def i176b0 : ICode :=
 (.seq (.seq (.reg [0,1,5] [sq 19 (.mv (.s 5)),
 sq 20 (.bin .geq .num (.s 19) (.c (.int .i64 0)))])
 (.cond (.s 20)
 .skip
 (.exit 0)))
 (.seq (.block 1
 (.seq (.draw [0,1,5] i176d0)
 (.cond (.s 31)
 (.seq (.seq (.draw [0,1,5] i176d1)
 (.cond (.s 40)
 (.seq (.reg [] [sa 4 (.mv (.c (.int .i64 (-1))))])
 .ret)
 .skip))
 (.seq (.reg [] [sa 4 (.mv (.c (.int .i64 1)))])
 .ret))
 .skip)))
 (.reg [0,1,5] [sq 21 (.mv (.s 5)),
 sq 22 (.bin .sub .num (.s 21) (.c (.int .i64 1))),
 sa 5 (.mv (.s 22))])))
def i176 : IFn:={ nparams:=2,ntmps:=41,results:=[.tmp 4],body :=
 (.seq (.reg [0,1] [sa 4 (.mv (.c (.int .i64 0)))])
 (.seq (.seq (.reg [0,1] [sq 6 (.mv (.s 0)),
 sq 7 (.len false (.s 6)),
 sq 8 (.mv (.s 1)),
 sq 9 (.len false (.s 8)),
 sq 10 (.bin .neq .num (.s 7) (.s 9))])
 (.cond (.s 10)
 (.seq (.seq (.reg [0,1] [sq 11 (.mv (.s 0)),
 sq 12 (.len false (.s 11)),
 sq 13 (.mv (.s 1)),
 sq 14 (.len false (.s 13)),
 sq 15 (.bin .lss .num (.s 12) (.s 14))])
 (.cond (.s 15)
 (.seq (.reg [] [sa 4 (.mv (.c (.int .i64 (-1))))])
 .ret)
 .skip))
 (.seq (.reg [] [sa 4 (.mv (.c (.int .i64 1)))])
 .ret))
 .skip))
 (.seq (.seq (.reg [0,1] [sq 16 (.mv (.s 0)),
 sq 17 (.len false (.s 16)),
 sq 18 (.bin .sub .num (.s 17) (.c (.int .i64 1))),
 sa 5 (.mv (.s 18))])
 (.block 0
 (.loop [0,1,5] i176b0)))
 (.seq (.reg [] [sa 4 (.mv (.c (.int .i64 0)))])
 .ret)))) }
theorem tr176 : trF Tryz.prog h176 Tryz.f176 = some i176:=by kernel_rfl
def h177 : List (List Nat):=[[0,1],[0,1],[0,1],[0,1],[0,1,5],[0,1,5,6],[0,1,5,6,20,21],[0,1,5,6,20,21],[0,1,5,6,20,21],[0,1,5,6,7,20,21],[0,1,5,6,7,20,21],[0,1,5,6,7,20,21],[0,1,5,6,7,20,21],[0,1,5,6,20,21],[0,1,5,6,20,21],[0,5,6],[5]]
def i177b0 : ICode :=
 (.seq (.reg [0,1,5,6,20,21] [sq 22 (.bin .lss .num (.s 21) (.s 20))])
 (.seq (.cond (.s 22)
 .skip
 (.exit 0))
 (.seq (.block 1
 (.seq (.reg [0,1,5,6,20,21] [sq 23 (.mv (.s 21)),
 sa 7 (.mv (.s 23))])
 (.seq (.reg [0,1,5,6,7,20,21] [sq 24 (.mv (.s 6)),
 sq 25 (.mv (.s 0)),
 sq 26 (.mv (.s 7)),
 sq 27 (.idxA 1 (.s 25) (.s 26)),
 sq 28 (.load false 1 (.s 27)),
 sq 29 (.conv .u64 (.s 28)),
 sq 30 (.bin .add .num (.s 24) (.s 29)),
 sa 6 (.mv (.s 30))])
 (.seq (.seq (.reg [0,1,5,6,7,20,21] [sq 31 (.mv (.s 7)),
 sq 32 (.mv (.s 1)),
 sq 33 (.len false (.s 32)),
 sq 34 (.bin .lss .num (.s 31) (.s 33))])
 (.cond (.s 34)
 (.reg [0,1,5,6,7,20,21] [sq 35 (.mv (.s 6)),
 sq 36 (.mv (.s 1)),
 sq 37 (.mv (.s 7)),
 sq 38 (.idxA 1 (.s 36) (.s 37)),
 sq 39 (.load false 1 (.s 38)),
 sq 40 (.conv .u64 (.s 39)),
 sq 41 (.bin .add .num (.s 35) (.s 40)),
 sa 6 (.mv (.s 41))])
 .skip))
 (.seq (.reg [0,1,5,6,7,20,21] [sq 42 (.mv (.s 5)),
 sq 43 (.mv (.s 7)),
 sq 44 (.mv (.s 6)),
 sq 45 (.conv .u32 (.s 44)),
 sq 46 (.idxA 1 (.s 42) (.s 43)),
 se (.store 1 (.s 46) (.s 45))])
 (.reg [0,1,5,6,20,21] [sq 47 (.mv (.s 6)),
 sq 48 (.bin .shr .num (.s 47) (.c (.int .u64 32))),
 sa 6 (.mv (.s 48))]))))))
 (.reg [0,1,5,6,20,21] [sq 49 (.bin .add .num (.s 21) (.c (.int .i64 1))),
 sq 21 (.mv (.s 49))]))))
def i177 : IFn:={ nparams:=2,ntmps:=58,results:=[.tmp 4],body :=
 (.seq (.reg [0,1] [sa 4 (.mv (.c (.sl .nil [])))])
 (.seq (.seq (.reg [0,1] [sq 8 (.mv (.s 0)),
 sq 9 (.len false (.s 8)),
 sq 10 (.mv (.s 1)),
 sq 11 (.len false (.s 10)),
 sq 12 (.bin .lss .num (.s 9) (.s 11))])
 (.cond (.s 12)
 (.reg [0,1] [sq 13 (.mv (.s 1)),
 sq 14 (.mv (.s 0)),
 sa 0 (.mv (.s 13)),
 sa 1 (.mv (.s 14))])
 .skip))
 (.seq (.reg [0,1] [sq 15 (.mv (.s 0)),
 sq 16 (.len false (.s 15)),
 sq 17 (.bin .add .num (.s 16) (.c (.int .i64 1))),
 sq 18 (.mksl 1 4 (.int .u32 0) (.s 17) (.s 17)),
 sa 5 (.mv (.s 18))])
 (.seq (.reg [0,1,5] [sa 6 (.mv (.c (.int .u64 0)))])
 (.seq (.seq (.reg [0,1,5,6] [sq 19 (.mv (.s 0)),
 sq 20 (.len false (.s 19)),
 sq 21 (.mv (.c (.int .i64 0)))])
 (.block 0
 (.loop [0,1,5,6,20,21] i177b0)))
 (.seq (.reg [0,5,6] [sq 50 (.mv (.s 5)),
 sq 51 (.mv (.s 0)),
 sq 52 (.len false (.s 51)),
 sq 53 (.mv (.s 6)),
 sq 54 (.conv .u32 (.s 53)),
 sq 55 (.idxA 1 (.s 50) (.s 52)),
 se (.store 1 (.s 55) (.s 54))])
 (.seq (.reg [5] [sq 56 (.mv (.s 5)),
 sq 57 (.call (.c (.fn (.func 165) [] [])) [(.s 56)]),
 sa 4 (.mv (.s 57))])
 .ret))))))) }
theorem tr177 : trF Tryz.prog h177 Tryz.f177 = some i177:=by kernel_rfl
def h178 : List (List Nat):=[[0,1],[0,1],[0,1,5],[0,1,5,6],[0,1,5,6,13,14],[0,1,5,6,13,14],[0,1,5,6,13,14],[0,1,5,6,7,13,14],[0,1,5,7,8,13,14],[0,1,5,7,8,13,14],[0,1,5,7,8,13,14],[0,1,5,8,13,14],[0,1,5,6,13,14],[5]]
def i178b0 : ICode :=
 (.seq (.reg [0,1,5,6,13,14] [sq 15 (.bin .lss .num (.s 14) (.s 13))])
 (.seq (.cond (.s 15)
 .skip
 (.exit 0))
 (.seq (.block 1
 (.seq (.reg [0,1,5,6,13,14] [sq 16 (.mv (.s 14)),
 sa 7 (.mv (.s 16))])
 (.seq (.reg [0,1,5,6,7,13,14] [sq 17 (.mv (.s 0)),
 sq 18 (.mv (.s 7)),
 sq 19 (.idxA 1 (.s 17) (.s 18)),
 sq 20 (.load false 1 (.s 19)),
 sq 21 (.conv .u64 (.s 20)),
 sq 22 (.mv (.s 6)),
 sq 23 (.bin .sub .num (.s 21) (.s 22)),
 sa 8 (.mv (.s 23))])
 (.seq (.seq (.reg [0,1,5,7,8,13,14] [sq 24 (.mv (.s 7)),
 sq 25 (.mv (.s 1)),
 sq 26 (.len false (.s 25)),
 sq 27 (.bin .lss .num (.s 24) (.s 26))])
 (.cond (.s 27)
 (.reg [0,1,5,7,8,13,14] [sq 28 (.mv (.s 8)),
 sq 29 (.mv (.s 1)),
 sq 30 (.mv (.s 7)),
 sq 31 (.idxA 1 (.s 29) (.s 30)),
 sq 32 (.load false 1 (.s 31)),
 sq 33 (.conv .u64 (.s 32)),
 sq 34 (.bin .sub .num (.s 28) (.s 33)),
 sa 8 (.mv (.s 34))])
 .skip))
 (.seq (.reg [0,1,5,7,8,13,14] [sq 35 (.mv (.s 5)),
 sq 36 (.mv (.s 7)),
 sq 37 (.mv (.s 8)),
 sq 38 (.conv .u32 (.s 37)),
 sq 39 (.idxA 1 (.s 35) (.s 36)),
 se (.store 1 (.s 39) (.s 38))])
 (.reg [0,1,5,8,13,14] [sq 40 (.mv (.s 8)),
 sq 41 (.bin .shr .num (.s 40) (.c (.int .u64 63))),
 sa 6 (.mv (.s 41))]))))))
 (.reg [0,1,5,6,13,14] [sq 42 (.bin .add .num (.s 14) (.c (.int .i64 1))),
 sq 14 (.mv (.s 42))]))))
def i178 : IFn:={ nparams:=2,ntmps:=45,results:=[.tmp 4],body :=
 (.seq (.reg [0,1] [sa 4 (.mv (.c (.sl .nil [])))])
 (.seq (.reg [0,1] [sq 9 (.mv (.s 0)),
 sq 10 (.len false (.s 9)),
 sq 11 (.mksl 1 4 (.int .u32 0) (.s 10) (.s 10)),
 sa 5 (.mv (.s 11))])
 (.seq (.reg [0,1,5] [sa 6 (.mv (.c (.int .u64 0)))])
 (.seq (.seq (.reg [0,1,5,6] [sq 12 (.mv (.s 0)),
 sq 13 (.len false (.s 12)),
 sq 14 (.mv (.c (.int .i64 0)))])
 (.block 0
 (.loop [0,1,5,6,13,14] i178b0)))
 (.seq (.reg [5] [sq 43 (.mv (.s 5)),
 sq 44 (.call (.c (.fn (.func 165) [] [])) [(.s 43)]),
 sa 4 (.mv (.s 44))])
 .ret))))) }
theorem tr178 : trF Tryz.prog h178 Tryz.f178 = some i178:=by kernel_rfl
def h179 : List (List Nat):=[[0,1],[0,1],[0,1,6],[0,1,6,7],[0,1,6,7,8],[0,1,6,7,8],[0,1,6,7,8],[0,1,6,7,8],[0,1,6,7,8],[0,1,6,7,8],[6,7]]
def i179b0 : ICode :=
 (.seq (.seq (.reg [0,1,6,7,8] [sq 15 (.mv (.s 8)),
 sq 16 (.bin .geq .num (.s 15) (.c (.int .i64 0)))])
 (.cond (.s 16)
 .skip
 (.exit 0)))
 (.seq (.block 1
 (.seq (.reg [0,1,6,7,8] [sq 19 (.mv (.s 7)),
 sq 20 (.bin .shl .num (.s 19) (.c (.int .u64 32))),
 sq 21 (.mv (.s 0)),
 sq 22 (.mv (.s 8)),
 sq 23 (.idxA 1 (.s 21) (.s 22)),
 sq 24 (.load false 1 (.s 23)),
 sq 25 (.conv .u64 (.s 24)),
 sq 26 (.bin .or .num (.s 20) (.s 25)),
 sa 7 (.mv (.s 26))])
 (.seq (.reg [0,1,6,7,8] [sq 27 (.mv (.s 6)),
 sq 28 (.mv (.s 8)),
 sq 29 (.mv (.s 7)),
 sq 30 (.mv (.s 1)),
 sq 31 (.conv .u64 (.s 30)),
 sq 32 (.bin .quo .num (.s 29) (.s 31)),
 sq 33 (.conv .u32 (.s 32)),
 sq 34 (.idxA 1 (.s 27) (.s 28)),
 se (.store 1 (.s 34) (.s 33))])
 (.reg [0,1,6,7,8] [sq 35 (.mv (.s 7)),
 sq 36 (.mv (.s 1)),
 sq 37 (.conv .u64 (.s 36)),
 sq 38 (.bin .rem .num (.s 35) (.s 37)),
 sa 7 (.mv (.s 38))]))))
 (.reg [0,1,6,7,8] [sq 17 (.mv (.s 8)),
 sq 18 (.bin .sub .num (.s 17) (.c (.int .i64 1))),
 sa 8 (.mv (.s 18))])))
def i179 : IFn:={ nparams:=2,ntmps:=43,results:=[.tmp 4,.tmp 5],body :=
 (.seq (.reg [0,1] [sa 4 (.mv (.c (.sl .nil []))),
 sa 5 (.mv (.c (.int .u32 0)))])
 (.seq (.reg [0,1] [sq 9 (.mv (.s 0)),
 sq 10 (.len false (.s 9)),
 sq 11 (.mksl 1 4 (.int .u32 0) (.s 10) (.s 10)),
 sa 6 (.mv (.s 11))])
 (.seq (.reg [0,1,6] [sa 7 (.mv (.c (.int .u64 0)))])
 (.seq (.seq (.reg [0,1,6,7] [sq 12 (.mv (.s 0)),
 sq 13 (.len false (.s 12)),
 sq 14 (.bin .sub .num (.s 13) (.c (.int .i64 1))),
 sa 8 (.mv (.s 14))])
 (.block 0
 (.loop [0,1,6,7,8] i179b0)))
 (.seq (.reg [6,7] [sq 39 (.mv (.s 6)),
 sq 40 (.call (.c (.fn (.func 165) [] [])) [(.s 39)]),
 sq 41 (.mv (.s 7)),
 sq 42 (.conv .u32 (.s 41)),
 sa 4 (.mv (.s 40)),
 sa 5 (.mv (.s 42))])
 .ret))))) }
theorem tr179 : trF Tryz.prog h179 Tryz.f179 = some i179:=by kernel_rfl
def h180 : List (List Nat):=[[0],[0]]
def i180 : IFn:={ nparams:=1,ntmps:=6,results:=[.tmp 2],body :=
 (.seq (.reg [0] [sa 2 (.mv (.c (.int .i64 0)))])
 (.seq (.reg [0] [sq 3 (.mv (.s 0)),
 sq 4 (.call (.c (.fn (.func 155) [] [])) [(.s 3)]),
 sq 5 (.bin .sub .num (.c (.int .i64 32)) (.s 4)),
 sa 2 (.mv (.s 5))])
 .ret)) }
theorem tr180 : trF Tryz.prog h180 Tryz.f180 = some i180:=by kernel_rfl
def h181 : List (List Nat):=[[0,1],[0,1],[0,1,5],[1,5,12,13,14],[1,5,12,13,14],[1,5,12,13,14],[1,5,6,7,12,13,14],[1,5,6,7,12,13,14],[1,5,12,13,14],[5]]
def i181d0 : List IStep:=[sq 19 (.mv (.s 5)),
 sq 20 (.mv (.s 6)),
 ⟨(some 21),.idxA 1 (.s 19) (.s 20),none,[0,1],false⟩,
 ⟨(some 22),.load false 1 (.s 21),none,[2],false⟩,
 sq 23 (.mv (.s 7)),
 sq 24 (.mv (.s 1)),
 ⟨(some 25),.bin .shl .num (.s 23) (.s 24),none,[4,5],false⟩,
 ⟨(some 26),.bin .or .num (.s 22) (.s 25),none,[3,6],false⟩,
 ⟨(some 27),.idxA 1 (.s 19) (.s 20),none,[0,1,2,3,4,5,6,7],false⟩,
 ⟨none,.store 1 (.s 27) (.s 26),none,[8,7,0,1,2,3,4,5,6],false⟩]
theorem i181d0t : tame i181d0 = true:=by kernel_rfl
def i181b0 : ICode :=
 (.seq (.reg [1,5,12,13,14] [sq 15 (.bin .lss .num (.s 14) (.s 13))])
 (.seq (.cond (.s 15)
 .skip
 (.exit 0))
 (.seq (.block 1
 (.seq (.reg [1,5,12,13,14] [sq 16 (.mv (.s 14)),
 sq 17 (.idxA 1 (.s 12) (.s 14)),
 sq 18 (.load false 1 (.s 17)),
 sa 6 (.mv (.s 16)),
 sa 7 (.mv (.s 18))])
 (.seq (.draw [1,5,6,7,12,13,14] i181d0)
 (.reg [1,5,6,7,12,13,14] [sq 28 (.mv (.s 5)),
 sq 29 (.mv (.s 6)),
 sq 30 (.bin .add .num (.s 29) (.c (.int .i64 1))),
 sq 31 (.mv (.s 7)),
 sq 32 (.conv .u64 (.s 31)),
 sq 33 (.mv (.s 1)),
 sq 34 (.bin .shl .num (.s 32) (.s 33)),
 sq 35 (.bin .shr .num (.s 34) (.c (.int .u64 32))),
 sq 36 (.conv .u32 (.s 35)),
 sq 37 (.idxA 1 (.s 28) (.s 30)),
 se (.store 1 (.s 37) (.s 36))]))))
 (.reg [1,5,12,13,14] [sq 38 (.bin .add .num (.s 14) (.c (.int .i64 1))),
 sq 14 (.mv (.s 38))]))))
def i181 : IFn:={ nparams:=2,ntmps:=40,results:=[.tmp 4],body :=
 (.seq (.reg [0,1] [sa 4 (.mv (.c (.sl .nil [])))])
 (.seq (.reg [0,1] [sq 8 (.mv (.s 0)),
 sq 9 (.len false (.s 8)),
 sq 10 (.bin .add .num (.s 9) (.c (.int .i64 1))),
 sq 11 (.mksl 1 4 (.int .u32 0) (.s 10) (.s 10)),
 sa 5 (.mv (.s 11))])
 (.seq (.seq (.reg [0,1,5] [sq 12 (.mv (.s 0)),
 sq 13 (.len false (.s 12)),
 sq 14 (.mv (.c (.int .i64 0)))])
 (.block 0
 (.loop [1,5,12,13,14] i181b0)))
 (.seq (.reg [5] [sq 39 (.mv (.s 5)),
 sa 4 (.mv (.s 39))])
 .ret)))) }
theorem tr181 : trF Tryz.prog h181 Tryz.f181 = some i181:=by kernel_rfl
def h182 : List (List Nat):=[[0,1,2,3,4],[0,1,2,3,4],[2,3,4,11],[2,3,4,12,13],[2,3,4,12,13],[2,3,4,12,13],[2,3,4,12,13],[2,3,4,12,13],[12]]
def i182d0 : List IStep:=[sq 20 (.mv (.s 11)),
 sq 21 (.mv (.s 3)),
 ⟨(some 22),.conv .u64 (.s 21),none,[1],false⟩,
 ⟨(some 23),.bin .quo .num (.s 20) (.s 22),none,[0,2],false⟩,
 sq 24 (.mv (.s 11)),
 sq 25 (.mv (.s 3)),
 ⟨(some 26),.conv .u64 (.s 25),none,[5],false⟩,
 ⟨(some 27),.bin .rem .num (.s 24) (.s 26),none,[4,6],false⟩,
 ⟨(some 12),.mv (.s 23),none,[3,0,1,2],true⟩,
 ⟨(some 13),.mv (.s 27),none,[7,8,0,1,2,3,4,5,6],true⟩]
theorem i182d0t : tame i182d0 = true:=by kernel_rfl
def i182b0 : ICode :=
 (.seq (.seq (.reg [2,3,4,12,13] [sq 28 (.mv (.s 12)),
 sq 29 (.bin .geq .num (.s 28) (.c (.int .u64 4294967296))),
 sq 30 (.mv (.s 29)),
 ⟨(some 31),.mv (.s 12),(some (30,false)),[],false⟩,
 ⟨(some 32),.mv (.s 4),(some (30,false)),[],false⟩,
 ⟨(some 33),.conv .u64 (.s 32),(some (30,false)),[],false⟩,
 ⟨(some 34),.bin .mul .num (.s 31) (.s 33),(some (30,false)),[],false⟩,
 ⟨(some 35),.mv (.s 13),(some (30,false)),[],false⟩,
 ⟨(some 36),.bin .shl .num (.s 35) (.c (.int .u64 32)),(some (30,false)),[],false⟩,
 ⟨(some 37),.mv (.s 2),(some (30,false)),[],false⟩,
 ⟨(some 38),.conv .u64 (.s 37),(some (30,false)),[],false⟩,
 ⟨(some 39),.bin .or .num (.s 36) (.s 38),(some (30,false)),[],false⟩,
 ⟨(some 40),.bin .gtr .num (.s 34) (.s 39),(some (30,false)),[],false⟩,
 sq 41 (.pick (.s 30) (.c (.bool true)) (.s 40))])
 (.cond (.s 41)
 .skip
 (.exit 0)))
 (.block 1
 (.seq (.reg [2,3,4,12,13] [sq 42 (.mv (.s 12)),
 sq 43 (.bin .sub .num (.s 42) (.c (.int .u64 1))),
 sa 12 (.mv (.s 43))])
 (.seq (.reg [2,3,4,12,13] [sq 44 (.mv (.s 13)),
 sq 45 (.mv (.s 3)),
 sq 46 (.conv .u64 (.s 45)),
 sq 47 (.bin .add .num (.s 44) (.s 46)),
 sa 13 (.mv (.s 47))])
 (.seq (.reg [2,3,4,12,13] [sq 48 (.mv (.s 13)),
 sq 49 (.bin .geq .num (.s 48) (.c (.int .u64 4294967296)))])
 (.cond (.s 49)
 (.exit 0)
 .skip))))))
def i182 : IFn:={ nparams:=5,ntmps:=51,results:=[.tmp 10],body :=
 (.seq (.reg [0,1,2,3,4] [sa 10 (.mv (.c (.int .u64 0)))])
 (.seq (.reg [0,1,2,3,4] [sq 14 (.mv (.s 0)),
 sq 15 (.conv .u64 (.s 14)),
 sq 16 (.bin .shl .num (.s 15) (.c (.int .u64 32))),
 sq 17 (.mv (.s 1)),
 sq 18 (.conv .u64 (.s 17)),
 sq 19 (.bin .or .num (.s 16) (.s 18)),
 sa 11 (.mv (.s 19))])
 (.seq (.draw [2,3,4,11] i182d0)
 (.seq (.block 0
 (.loop [2,3,4,12,13] i182b0))
 (.seq (.reg [12] [sq 50 (.mv (.s 12)),
 sa 10 (.mv (.s 50))])
 .ret))))) }
theorem tr182 : trF Tryz.prog h182 Tryz.f182 = some i182:=by kernel_rfl
def h183 : List (List Nat):=[[0,1,2],[0,1,2],[0,1,2,7,8],[0,1,2,7,8,12,13],[0,1,2,7,8,12,13],[0,1,2,7,8,12,13],[0,1,2,7,8,9,12,13],[0,1,2,7,8,9,12,13],[0,1,2,7,8,9,12,13],[0,1,2,7,9,10,12,13],[0,1,2,7,10,12,13],[0,1,2,7,8,12,13],[0,1,2,7,8,12,13],[8]]
def i183b0 : ICode :=
 (.seq (.reg [0,1,2,7,8,12,13] [sq 14 (.bin .lss .num (.s 13) (.s 12))])
 (.seq (.cond (.s 14)
 .skip
 (.exit 0))
 (.seq (.block 1
 (.seq (.reg [0,1,2,7,8,12,13] [sq 15 (.mv (.s 13)),
 sa 9 (.mv (.s 15))])
 (.seq (.seq (.reg [0,1,2,7,8,9,12,13] [sq 16 (.mv (.s 9)),
 sq 17 (.mv (.s 1)),
 sq 18 (.len false (.s 17)),
 sq 19 (.bin .lss .num (.s 16) (.s 18))])
 (.cond (.s 19)
 (.reg [0,1,2,7,8,9,12,13] [sq 20 (.mv (.s 7)),
 sq 21 (.mv (.s 2)),
 sq 22 (.mv (.s 1)),
 sq 23 (.mv (.s 9)),
 sq 24 (.idxA 1 (.s 22) (.s 23)),
 sq 25 (.load false 1 (.s 24)),
 sq 26 (.conv .u64 (.s 25)),
 sq 27 (.bin .mul .num (.s 21) (.s 26)),
 sq 28 (.bin .add .num (.s 20) (.s 27)),
 sa 7 (.mv (.s 28))])
 .skip))
 (.seq (.reg [0,1,2,7,8,9,12,13] [sq 29 (.mv (.s 0)),
 sq 30 (.mv (.s 9)),
 sq 31 (.idxA 1 (.s 29) (.s 30)),
 sq 32 (.load false 1 (.s 31)),
 sq 33 (.conv .u64 (.s 32)),
 sq 34 (.mv (.s 7)),
 sq 35 (.conv .u32 (.s 34)),
 sq 36 (.conv .u64 (.s 35)),
 sq 37 (.bin .sub .num (.s 33) (.s 36)),
 sq 38 (.mv (.s 8)),
 sq 39 (.bin .sub .num (.s 37) (.s 38)),
 sa 10 (.mv (.s 39))])
 (.seq (.reg [0,1,2,7,9,10,12,13] [sq 40 (.mv (.s 0)),
 sq 41 (.mv (.s 9)),
 sq 42 (.mv (.s 10)),
 sq 43 (.conv .u32 (.s 42)),
 sq 44 (.idxA 1 (.s 40) (.s 41)),
 se (.store 1 (.s 44) (.s 43))])
 (.seq (.reg [0,1,2,7,10,12,13] [sq 45 (.mv (.s 10)),
 sq 46 (.bin .shr .num (.s 45) (.c (.int .u64 63))),
 sa 8 (.mv (.s 46))])
 (.reg [0,1,2,7,8,12,13] [sq 47 (.mv (.s 7)),
 sq 48 (.bin .shr .num (.s 47) (.c (.int .u64 32))),
 sa 7 (.mv (.s 48))])))))))
 (.reg [0,1,2,7,8,12,13] [sq 49 (.bin .add .num (.s 13) (.c (.int .i64 1))),
 sq 13 (.mv (.s 49))]))))
def i183 : IFn:={ nparams:=3,ntmps:=52,results:=[.tmp 6],body :=
 (.seq (.reg [0,1,2] [sa 6 (.mv (.c (.bool false)))])
 (.seq (.reg [0,1,2] [sa 7 (.mv (.c (.int .u64 0))),
 sa 8 (.mv (.c (.int .u64 0)))])
 (.seq (.seq (.reg [0,1,2,7,8] [sq 11 (.mv (.s 0)),
 sq 12 (.len false (.s 11)),
 sq 13 (.mv (.c (.int .i64 0)))])
 (.block 0
 (.loop [0,1,2,7,8,12,13] i183b0)))
 (.seq (.reg [8] [sq 50 (.mv (.s 8)),
 sq 51 (.bin .gtr .num (.s 50) (.c (.int .u64 0))),
 sa 6 (.mv (.s 51))])
 .ret)))) }
theorem tr183 : trF Tryz.prog h183 Tryz.f183 = some i183:=by kernel_rfl
def h184 : List (List Nat):=[[0,1],[0,1,4],[0,1,4,7,8],[0,1,4,7,8],[0,1,4,7,8],[0,1,4,5,7,8],[0,1,4,5,7,8],[0,1,4,5,7,8],[0,1,4,5,7,8],[0,1,4,7,8],[0,1,4,7,8]]
def i184b0 : ICode :=
 (.seq (.reg [0,1,4,7,8] [sq 9 (.bin .lss .num (.s 8) (.s 7))])
 (.seq (.cond (.s 9)
 .skip
 (.exit 0))
 (.seq (.block 1
 (.seq (.reg [0,1,4,7,8] [sq 10 (.mv (.s 8)),
 sa 5 (.mv (.s 10))])
 (.seq (.reg [0,1,4,5,7,8] [sq 11 (.mv (.s 4)),
 sq 12 (.mv (.s 0)),
 sq 13 (.mv (.s 5)),
 sq 14 (.idxA 1 (.s 12) (.s 13)),
 sq 15 (.load false 1 (.s 14)),
 sq 16 (.conv .u64 (.s 15)),
 sq 17 (.bin .add .num (.s 11) (.s 16)),
 sa 4 (.mv (.s 17))])
 (.seq (.seq (.reg [0,1,4,5,7,8] [sq 18 (.mv (.s 5)),
 sq 19 (.mv (.s 1)),
 sq 20 (.len false (.s 19)),
 sq 21 (.bin .lss .num (.s 18) (.s 20))])
 (.cond (.s 21)
 (.reg [0,1,4,5,7,8] [sq 22 (.mv (.s 4)),
 sq 23 (.mv (.s 1)),
 sq 24 (.mv (.s 5)),
 sq 25 (.idxA 1 (.s 23) (.s 24)),
 sq 26 (.load false 1 (.s 25)),
 sq 27 (.conv .u64 (.s 26)),
 sq 28 (.bin .add .num (.s 22) (.s 27)),
 sa 4 (.mv (.s 28))])
 .skip))
 (.seq (.reg [0,1,4,5,7,8] [sq 29 (.mv (.s 0)),
 sq 30 (.mv (.s 5)),
 sq 31 (.mv (.s 4)),
 sq 32 (.conv .u32 (.s 31)),
 sq 33 (.idxA 1 (.s 29) (.s 30)),
 se (.store 1 (.s 33) (.s 32))])
 (.reg [0,1,4,7,8] [sq 34 (.mv (.s 4)),
 sq 35 (.bin .shr .num (.s 34) (.c (.int .u64 32))),
 sa 4 (.mv (.s 35))]))))))
 (.reg [0,1,4,7,8] [sq 36 (.bin .add .num (.s 8) (.c (.int .i64 1))),
 sq 8 (.mv (.s 36))]))))
def i184 : IFn:={ nparams:=2,ntmps:=37,results:=[],body :=
 (.seq (.reg [0,1] [sa 4 (.mv (.c (.int .u64 0)))])
 (.seq (.reg [0,1,4] [sq 6 (.mv (.s 0)),
 sq 7 (.len false (.s 6)),
 sq 8 (.mv (.c (.int .i64 0)))])
 (.block 0
 (.loop [0,1,4,7,8] i184b0)))) }
theorem tr184 : trF Tryz.prog h184 Tryz.f184 = some i184:=by kernel_rfl
def h185 : List (List Nat):=[[0,1],[0,1],[0,1,5],[0,1,5,11,12],[0,1,5,11,12],[0,1,5,11,12],[0,1,5,6,11,12],[0,1,5,6,11,12],[0,1,5,6,11,12],[0,1,5,11,12],[5]]
def i185d0 : List IStep:=[sq 29 (.mv (.s 5)),
 sq 30 (.mv (.s 6)),
 ⟨(some 31),.idxA 1 (.s 29) (.s 30),none,[0,1],false⟩,
 ⟨(some 32),.load false 1 (.s 31),none,[2],false⟩,
 sq 33 (.mv (.s 0)),
 sq 34 (.mv (.s 6)),
 ⟨(some 35),.bin .add .num (.s 34) (.c (.int .i64 1)),none,[5],false⟩,
 ⟨(some 36),.idxA 1 (.s 33) (.s 35),none,[4,6],false⟩,
 ⟨(some 37),.load false 1 (.s 36),none,[7],false⟩,
 ⟨(some 38),.conv .u64 (.s 37),none,[8],false⟩,
 ⟨(some 39),.bin .shl .num (.s 38) (.c (.int .u64 32)),none,[9],false⟩,
 sq 40 (.mv (.s 1)),
 ⟨(some 41),.bin .shr .num (.s 39) (.s 40),none,[10,11],false⟩,
 ⟨(some 42),.conv .u32 (.s 41),none,[12],false⟩,
 ⟨(some 43),.bin .or .num (.s 32) (.s 42),none,[3,13],false⟩,
 ⟨(some 44),.idxA 1 (.s 29) (.s 30),none,[0,1,2,3,4,5,6,7,8,9,10,11,12,13,14],false⟩,
 ⟨none,.store 1 (.s 44) (.s 43),none,[15,14,0,1,2,3,4,5,6,7,8,9,10,11,12,13],false⟩]
theorem i185d0t : tame i185d0 = true:=by kernel_rfl
def i185b0 : ICode :=
 (.seq (.reg [0,1,5,11,12] [sq 13 (.bin .lss .num (.s 12) (.s 11))])
 (.seq (.cond (.s 13)
 .skip
 (.exit 0))
 (.seq (.block 1
 (.seq (.reg [0,1,5,11,12] [sq 14 (.mv (.s 12)),
 sa 6 (.mv (.s 14))])
 (.seq (.reg [0,1,5,6,11,12] [sq 15 (.mv (.s 5)),
 sq 16 (.mv (.s 6)),
 sq 17 (.mv (.s 0)),
 sq 18 (.mv (.s 6)),
 sq 19 (.idxA 1 (.s 17) (.s 18)),
 sq 20 (.load false 1 (.s 19)),
 sq 21 (.mv (.s 1)),
 sq 22 (.bin .shr .num (.s 20) (.s 21)),
 sq 23 (.idxA 1 (.s 15) (.s 16)),
 se (.store 1 (.s 23) (.s 22))])
 (.seq (.reg [0,1,5,6,11,12] [sq 24 (.mv (.s 6)),
 sq 25 (.bin .add .num (.s 24) (.c (.int .i64 1))),
 sq 26 (.mv (.s 0)),
 sq 27 (.len false (.s 26)),
 sq 28 (.bin .lss .num (.s 25) (.s 27))])
 (.cond (.s 28)
 (.draw [0,1,5,6,11,12] i185d0)
 .skip)))))
 (.reg [0,1,5,11,12] [sq 45 (.bin .add .num (.s 12) (.c (.int .i64 1))),
 sq 12 (.mv (.s 45))]))))
def i185 : IFn:={ nparams:=2,ntmps:=48,results:=[.tmp 4],body :=
 (.seq (.reg [0,1] [sa 4 (.mv (.c (.sl .nil [])))])
 (.seq (.reg [0,1] [sq 7 (.mv (.s 0)),
 sq 8 (.len false (.s 7)),
 sq 9 (.mksl 1 4 (.int .u32 0) (.s 8) (.s 8)),
 sa 5 (.mv (.s 9))])
 (.seq (.seq (.reg [0,1,5] [sq 10 (.mv (.s 0)),
 sq 11 (.len false (.s 10)),
 sq 12 (.mv (.c (.int .i64 0)))])
 (.block 0
 (.loop [0,1,5,11,12] i185b0)))
 (.seq (.reg [5] [sq 46 (.mv (.s 5)),
 sq 47 (.call (.c (.fn (.func 165) [] [])) [(.s 46)]),
 sa 4 (.mv (.s 47))])
 .ret)))) }
theorem tr185 : trF Tryz.prog h185 Tryz.f185 = some i185:=by kernel_rfl
def h186 : List (List Nat):=[[0,1],[1,2,3],[3,4]]
def i186 : IFn:={ nparams:=2,ntmps:=15,results:=[.cell 3 true 2],body :=
 (.seq (.reg [0,1] [sq 2 (.box 2 (.s 0)),
 sq 3 (.alloc 2 (.agg [(.bool false),(.sl .nil [])]))])
 (.seq (.reg [1,2,3] [sq 8 (.load true 2 (.s 2)),
 sq 9 (.load true 2 (.s 1)),
 sq 10 (.call (.c (.fn (.func 166) [] [])) [(.s 8),(.s 9)]),
 sq 7 (.mv (.s 10)),
 sq 11 (.extr (.s 7) 0),
 sq 12 (.extr (.s 7) 1),
 sq 13 (.extr (.s 7) 2),
 sq 4 (.alloc 2 (.agg [(.bool false),(.sl .nil [])])),
 sq 5 (.alloc 2 (.agg [(.bool false),(.sl .nil [])])),
 se (.store 2 (.s 4) (.s 11)),
 se (.store 2 (.s 5) (.s 12)),
 sa 6 (.mv (.s 13))])
 (.seq (.reg [3,4] [sq 14 (.load true 2 (.s 4)),
 se (.store 2 (.s 3) (.s 14))])
 .ret))) }
theorem tr186 : trF Tryz.prog h186 Tryz.f186 = some i186:=by kernel_rfl
def h187 : List (List Nat):=[[0],[0],[0,3],[0,3],[0,3],[],[0,3],[0]]
def i187b0 : ICode :=
 (.seq (.seq (.reg [0,3] [sq 4 (.mv (.s 3)),
 sq 5 (.mv (.s 3)),
 sq 6 (.bin .mul .num (.s 4) (.s 5)),
 sq 7 (.mv (.s 0)),
 sq 8 (.bin .leq .num (.s 6) (.s 7))])
 (.cond (.s 8)
 .skip
 (.exit 0)))
 (.seq (.block 1
 (.seq (.reg [0,3] [sq 11 (.mv (.s 0)),
 sq 12 (.mv (.s 3)),
 sq 13 (.bin .rem .num (.s 11) (.s 12)),
 sq 14 (.bin .eql .num (.s 13) (.c (.int .i64 0)))])
 (.cond (.s 14)
 (.seq (.reg [] [sa 2 (.mv (.c (.bool false)))])
 .ret)
 .skip)))
 (.reg [0,3] [sq 9 (.mv (.s 3)),
 sq 10 (.bin .add .num (.s 9) (.c (.int .i64 1))),
 sa 3 (.mv (.s 10))])))
def i187 : IFn:={ nparams:=1,ntmps:=17,results:=[.tmp 2],body :=
 (.seq (.reg [0] [sa 2 (.mv (.c (.bool false)))])
 (.seq (.seq (.reg [0] [sa 3 (.mv (.c (.int .i64 2)))])
 (.block 0
 (.loop [0,3] i187b0)))
 (.seq (.reg [0] [sq 15 (.mv (.s 0)),
 sq 16 (.bin .gtr .num (.s 15) (.c (.int .i64 1))),
 sa 2 (.mv (.s 16))])
 .ret))) }
theorem tr187 : trF Tryz.prog h187 Tryz.f187 = some i187:=by kernel_rfl
def h188 : List (List Nat):=[[0],[0],[0],[0],[0]]
def i188b0 : ICode :=
 (.seq (.seq (.reg [0] [sq 3 (.mv (.s 0)),
 sq 4 (.len false (.s 3)),
 sq 5 (.bin .gtr .num (.s 4) (.c (.int .i64 0))),
 sq 6 (.mv (.s 5)),
 ⟨(some 7),.mv (.s 0),(some (6,true)),[],false⟩,
 ⟨(some 8),.mv (.s 0),(some (6,true)),[],false⟩,
 ⟨(some 9),.len false (.s 8),(some (6,true)),[],false⟩,
 ⟨(some 10),.bin .sub .num (.s 9) (.c (.int .i64 1)),(some (6,true)),[],false⟩,
 ⟨(some 11),.idxA 1 (.s 7) (.s 10),(some (6,true)),[],false⟩,
 ⟨(some 12),.load false 1 (.s 11),(some (6,true)),[],false⟩,
 ⟨(some 13),.bin .eql .num (.s 12) (.c (.int .i64 0)),(some (6,true)),[],false⟩,
 sq 14 (.pick (.s 6) (.s 13) (.c (.bool false)))])
 (.cond (.s 14)
 .skip
 (.exit 0)))
 (.block 1
 (.reg [0] [sq 15 (.mv (.s 0)),
 sq 16 (.mv (.s 0)),
 sq 17 (.len false (.s 16)),
 sq 18 (.bin .sub .num (.s 17) (.c (.int .i64 1))),
 sq 19 (.slice 1 (.s 15) none (some (.s 18)) none),
 sa 0 (.mv (.s 19))])))
def i188 : IFn:={ nparams:=1,ntmps:=21,results:=[.tmp 2],body :=
 (.seq (.reg [0] [sa 2 (.mv (.c (.sl .nil [])))])
 (.seq (.block 0
 (.loop [0] i188b0))
 (.seq (.reg [0] [sq 20 (.mv (.s 0)),
 sa 2 (.mv (.s 20))])
 .ret))) }
theorem tr188 : trF Tryz.prog h188 Tryz.f188 = some i188:=by kernel_rfl
def h189 : List (List Nat):=[[0,1,2],[0,1,2],[0,1,2,7],[0,1,2,7],[0,1,2,7],[0,1,2,7,8],[0,1,2,7,8,9],[0,1,2,7,8,9,39,40,41],[0,1,2,7,8,9,39,40,41],[0,1,2,7,8,9,39,40,41],[0,1,2,7,8,9,10,11,39,40,41],[0,1,2,7,8,9,39,40,41],[0,1,2,7],[0]]
def i189d0 : List IStep:=[sq 46 (.mv (.s 0)),
 sq 47 (.mv (.s 9)),
 sq 48 (.mv (.s 10)),
 ⟨(some 49),.bin .add .num (.s 47) (.s 48),none,[1,2],false⟩,
 sq 50 (.mv (.s 0)),
 sq 51 (.mv (.s 9)),
 sq 52 (.mv (.s 10)),
 ⟨(some 53),.bin .add .num (.s 51) (.s 52),none,[5,6],false⟩,
 ⟨(some 54),.idxA 1 (.s 50) (.s 53),none,[4,7],false⟩,
 ⟨(some 55),.load false 1 (.s 54),none,[8],false⟩,
 sq 56 (.mv (.s 2)),
 ⟨(some 57),.bin .add .num (.s 55) (.s 56),none,[9,10],false⟩,
 sq 58 (.mv (.s 8)),
 sq 59 (.mv (.s 11)),
 sq 60 (.mv (.s 2)),
 ⟨(some 61),.call (.c (.fn (.func 163) [] [])) [(.s 58),(.s 59),(.s 60)],none,[12,13,14],false⟩,
 ⟨(some 62),.bin .sub .num (.s 57) (.s 61),none,[11,15],false⟩,
 sq 63 (.mv (.s 2)),
 ⟨(some 64),.bin .rem .num (.s 62) (.s 63),none,[16,17],false⟩,
 ⟨(some 65),.idxA 1 (.s 46) (.s 49),none,[0,3,1,2,4,5,6,7,8,9,10,11,12,13,14,15,16,17,18],false⟩,
 ⟨none,.store 1 (.s 65) (.s 64),none,[19,18,15,0,1,2,3,4,5,6,7,8,9,10,11,12,13,14,16,17],false⟩]
theorem i189d0t : tame i189d0 = true:=by kernel_rfl
def i189b0 : ICode :=
 (.seq (.reg [0,1,2,7,8,9,39,40,41] [sq 42 (.bin .lss .num (.s 41) (.s 40))])
 (.seq (.cond (.s 42)
 .skip
 (.exit 2))
 (.seq (.block 3
 (.seq (.reg [0,1,2,7,8,9,39,40,41] [sq 43 (.mv (.s 41)),
 sq 44 (.idxA 1 (.s 39) (.s 41)),
 sq 45 (.load false 1 (.s 44)),
 sa 10 (.mv (.s 43)),
 sa 11 (.mv (.s 45))])
 (.draw [0,1,2,7,8,9,10,11,39,40,41] i189d0)))
 (.reg [0,1,2,7,8,9,39,40,41] [sq 66 (.bin .add .num (.s 41) (.c (.int .i64 1))),
 sq 41 (.mv (.s 66))]))))
def i189b1 : ICode :=
 (.seq (.seq (.reg [0,1,2,7] [sq 20 (.mv (.s 0)),
 sq 21 (.len false (.s 20)),
 sq 22 (.mv (.s 1)),
 sq 23 (.len false (.s 22)),
 sq 24 (.bin .geq .num (.s 21) (.s 23))])
 (.cond (.s 24)
 .skip
 (.exit 0)))
 (.block 1
 (.seq (.reg [0,1,2,7] [sq 25 (.mv (.s 0)),
 sq 26 (.mv (.s 0)),
 sq 27 (.len false (.s 26)),
 sq 28 (.bin .sub .num (.s 27) (.c (.int .i64 1))),
 sq 29 (.idxA 1 (.s 25) (.s 28)),
 sq 30 (.load false 1 (.s 29)),
 sq 31 (.mv (.s 7)),
 sq 32 (.mv (.s 2)),
 sq 33 (.call (.c (.fn (.func 163) [] [])) [(.s 30),(.s 31),(.s 32)]),
 sa 8 (.mv (.s 33))])
 (.seq (.reg [0,1,2,7,8] [sq 34 (.mv (.s 0)),
 sq 35 (.len false (.s 34)),
 sq 36 (.mv (.s 1)),
 sq 37 (.len false (.s 36)),
 sq 38 (.bin .sub .num (.s 35) (.s 37)),
 sa 9 (.mv (.s 38))])
 (.seq (.seq (.reg [0,1,2,7,8,9] [sq 39 (.mv (.s 1)),
 sq 40 (.len false (.s 39)),
 sq 41 (.mv (.c (.int .i64 0)))])
 (.block 2
 (.loop [0,1,2,7,8,9,39,40,41] i189b0)))
 (.reg [0,1,2,7] [sq 67 (.mv (.s 0)),
 sq 68 (.call (.c (.fn (.func 188) [] [])) [(.s 67)]),
 sa 0 (.mv (.s 68))]))))))
def i189 : IFn:={ nparams:=3,ntmps:=70,results:=[.tmp 6],body :=
 (.seq (.reg [0,1,2] [sa 6 (.mv (.c (.sl .nil [])))])
 (.seq (.reg [0,1,2] [sq 12 (.mv (.s 1)),
 sq 13 (.mv (.s 1)),
 sq 14 (.len false (.s 13)),
 sq 15 (.bin .sub .num (.s 14) (.c (.int .i64 1))),
 sq 16 (.idxA 1 (.s 12) (.s 15)),
 sq 17 (.load false 1 (.s 16)),
 sq 18 (.mv (.s 2)),
 sq 19 (.call (.c (.fn (.func 190) [] [])) [(.s 17),(.s 18)]),
 sa 7 (.mv (.s 19))])
 (.seq (.block 0
 (.loop [0,1,2,7] i189b1))
 (.seq (.reg [0] [sq 69 (.mv (.s 0)),
 sa 6 (.mv (.s 69))])
 .ret)))) }
theorem tr189 : trF Tryz.prog h189 Tryz.f189 = some i189:=by kernel_rfl
def h190 : List (List Nat):=[[0,1],[0,1],[0,1,5],[0,1,5,6],[0,1,5,6],[0,1,5,6],[0,1,5,6],[0,1,5,6],[0,1,5,6],[1,5]]
def i190b0 : ICode :=
 (.seq (.seq (.reg [0,1,5,6] [sq 9 (.mv (.s 6)),
 sq 10 (.bin .gtr .num (.s 9) (.c (.int .i64 0)))])
 (.cond (.s 10)
 .skip
 (.exit 0)))
 (.seq (.block 1
 (.seq (.seq (.reg [0,1,5,6] [sq 13 (.mv (.s 6)),
 sq 14 (.bin .and .num (.s 13) (.c (.int .i64 1))),
 sq 15 (.bin .eql .num (.s 14) (.c (.int .i64 1)))])
 (.cond (.s 15)
 (.reg [0,1,5,6] [sq 16 (.mv (.s 5)),
 sq 17 (.mv (.s 0)),
 sq 18 (.mv (.s 1)),
 sq 19 (.call (.c (.fn (.func 163) [] [])) [(.s 16),(.s 17),(.s 18)]),
 sa 5 (.mv (.s 19))])
 .skip))
 (.reg [0,1,5,6] [sq 20 (.mv (.s 0)),
 sq 21 (.mv (.s 0)),
 sq 22 (.mv (.s 1)),
 sq 23 (.call (.c (.fn (.func 163) [] [])) [(.s 20),(.s 21),(.s 22)]),
 sa 0 (.mv (.s 23))])))
 (.reg [0,1,5,6] [sq 11 (.mv (.s 6)),
 sq 12 (.bin .shr .num (.s 11) (.c (.int .u64 1))),
 sa 6 (.mv (.s 12))])))
def i190 : IFn:={ nparams:=2,ntmps:=27,results:=[.tmp 4],body :=
 (.seq (.reg [0,1] [sa 4 (.mv (.c (.int .i64 0)))])
 (.seq (.reg [0,1] [sa 5 (.mv (.c (.int .i64 1)))])
 (.seq (.seq (.reg [0,1,5] [sq 7 (.mv (.s 1)),
 sq 8 (.bin .sub .num (.s 7) (.c (.int .i64 2))),
 sa 6 (.mv (.s 8))])
 (.block 0
 (.loop [0,1,5,6] i190b0)))
 (.seq (.reg [1,5] [sq 24 (.mv (.s 5)),
 sq 25 (.mv (.s 1)),
 sq 26 (.bin .rem .num (.s 24) (.s 25)),
 sa 4 (.mv (.s 26))])
 .ret)))) }
theorem tr190 : trF Tryz.prog h190 Tryz.f190 = some i190:=by kernel_rfl
def h191 : List (List Nat):=[[0,1],[0,1],[0,1,6],[0,1,6,7],[0,1,6,7,8],[0,1,6,7,8],[0,1,6,7,8],[0,1,6,7,8],[0,1,6,7,8],[0,1,6,7,8],[6,7]]
def i191b0 : ICode :=
 (.seq (.seq (.reg [0,1,6,7,8] [sq 15 (.mv (.s 8)),
 sq 16 (.bin .geq .num (.s 15) (.c (.int .i64 0)))])
 (.cond (.s 16)
 .skip
 (.exit 0)))
 (.seq (.block 1
 (.seq (.reg [0,1,6,7,8] [sq 19 (.mv (.s 7)),
 sq 20 (.bin .mul .num (.s 19) (.c (.int .i64 65536))),
 sq 21 (.mv (.s 0)),
 sq 22 (.mv (.s 8)),
 sq 23 (.idxA 1 (.s 21) (.s 22)),
 sq 24 (.load false 1 (.s 23)),
 sq 25 (.bin .add .num (.s 20) (.s 24)),
 sa 7 (.mv (.s 25))])
 (.seq (.reg [0,1,6,7,8] [sq 26 (.mv (.s 6)),
 sq 27 (.mv (.s 8)),
 sq 28 (.mv (.s 7)),
 sq 29 (.mv (.s 1)),
 sq 30 (.bin .quo .num (.s 28) (.s 29)),
 sq 31 (.idxA 1 (.s 26) (.s 27)),
 se (.store 1 (.s 31) (.s 30))])
 (.reg [0,1,6,7,8] [sq 32 (.mv (.s 7)),
 sq 33 (.mv (.s 1)),
 sq 34 (.bin .rem .num (.s 32) (.s 33)),
 sa 7 (.mv (.s 34))]))))
 (.reg [0,1,6,7,8] [sq 17 (.mv (.s 8)),
 sq 18 (.bin .sub .num (.s 17) (.c (.int .i64 1))),
 sa 8 (.mv (.s 18))])))
def i191 : IFn:={ nparams:=2,ntmps:=37,results:=[.tmp 4,.tmp 5],body :=
 (.seq (.reg [0,1] [sa 4 (.mv (.c (.sl .nil []))),
 sa 5 (.mv (.c (.int .i64 0)))])
 (.seq (.reg [0,1] [sq 9 (.mv (.s 0)),
 sq 10 (.len false (.s 9)),
 sq 11 (.mksl 1 8 (.int .i64 0) (.s 10) (.s 10)),
 sa 6 (.mv (.s 11))])
 (.seq (.reg [0,1,6] [sa 7 (.mv (.c (.int .i64 0)))])
 (.seq (.seq (.reg [0,1,6,7] [sq 12 (.mv (.s 0)),
 sq 13 (.len false (.s 12)),
 sq 14 (.bin .sub .num (.s 13) (.c (.int .i64 1))),
 sa 8 (.mv (.s 14))])
 (.block 0
 (.loop [0,1,6,7,8] i191b0)))
 (.seq (.reg [6,7] [sq 35 (.mv (.s 6)),
 sq 36 (.mv (.s 7)),
 sa 4 (.mv (.s 35)),
 sa 5 (.mv (.s 36))])
 .ret))))) }
theorem tr191 : trF Tryz.prog h191 Tryz.f191 = some i191:=by kernel_rfl
def h192 : List (List Nat):=[[0,1],[0,1],[0,1,5],[0,1,5,6],[0,1,5,6,7],[0,1,5,6,7],[0,1,5,6,7],[0,1,5,6,7],[0,1,5,6,7],[0,1,5,6,7],[0,5,6],[5]]
def i192b0 : ICode :=
 (.seq (.seq (.reg [0,1,5,6,7] [sq 12 (.mv (.s 7)),
 sq 13 (.mv (.s 0)),
 sq 14 (.len false (.s 13)),
 sq 15 (.bin .lss .num (.s 12) (.s 14))])
 (.cond (.s 15)
 .skip
 (.exit 0)))
 (.seq (.block 1
 (.seq (.reg [0,1,5,6,7] [sq 18 (.mv (.s 6)),
 sq 19 (.mv (.s 0)),
 sq 20 (.mv (.s 7)),
 sq 21 (.idxA 1 (.s 19) (.s 20)),
 sq 22 (.load false 1 (.s 21)),
 sq 23 (.mv (.s 1)),
 sq 24 (.bin .mul .num (.s 22) (.s 23)),
 sq 25 (.bin .add .num (.s 18) (.s 24)),
 sa 6 (.mv (.s 25))])
 (.seq (.reg [0,1,5,6,7] [sq 26 (.mv (.s 5)),
 sq 27 (.mv (.s 7)),
 sq 28 (.mv (.s 6)),
 sq 29 (.bin .rem .num (.s 28) (.c (.int .i64 65536))),
 sq 30 (.idxA 1 (.s 26) (.s 27)),
 se (.store 1 (.s 30) (.s 29))])
 (.reg [0,1,5,6,7] [sq 31 (.mv (.s 6)),
 sq 32 (.bin .quo .num (.s 31) (.c (.int .i64 65536))),
 sa 6 (.mv (.s 32))]))))
 (.reg [0,1,5,6,7] [sq 16 (.mv (.s 7)),
 sq 17 (.bin .add .num (.s 16) (.c (.int .i64 1))),
 sa 7 (.mv (.s 17))])))
def i192 : IFn:={ nparams:=2,ntmps:=39,results:=[.tmp 4],body :=
 (.seq (.reg [0,1] [sa 4 (.mv (.c (.sl .nil [])))])
 (.seq (.reg [0,1] [sq 8 (.mv (.s 0)),
 sq 9 (.len false (.s 8)),
 sq 10 (.bin .add .num (.s 9) (.c (.int .i64 1))),
 sq 11 (.mksl 1 8 (.int .i64 0) (.s 10) (.s 10)),
 sa 5 (.mv (.s 11))])
 (.seq (.reg [0,1,5] [sa 6 (.mv (.c (.int .i64 0)))])
 (.seq (.seq (.reg [0,1,5,6] [sa 7 (.mv (.c (.int .i64 0)))])
 (.block 0
 (.loop [0,1,5,6,7] i192b0)))
 (.seq (.reg [0,5,6] [sq 33 (.mv (.s 5)),
 sq 34 (.mv (.s 0)),
 sq 35 (.len false (.s 34)),
 sq 36 (.mv (.s 6)),
 sq 37 (.idxA 1 (.s 33) (.s 35)),
 se (.store 1 (.s 37) (.s 36))])
 (.seq (.reg [5] [sq 38 (.mv (.s 5)),
 sa 4 (.mv (.s 38))])
 .ret)))))) }
theorem tr192 : trF Tryz.prog h192 Tryz.f192 = some i192:=by kernel_rfl
def h193 : List (List Nat):=[[0,1],[0,1],[0,1,5],[1,5,17,18,19],[1,5,17,18,19],[1,5,17,18,19],[1,5,6,7,17,18,19],[1,5,6,7,8,17,18,19],[1,5,6,7,8,17,18,19,24,25,26],[1,5,6,7,8,17,18,19,24,25,26],[1,5,6,7,8,17,18,19,24,25,26],[1,5,6,7,8,9,10,17,18,19,24,25,26],[1,5,6,7,8,9,17,18,19,24,25,26],[1,5,6,7,8,17,18,19,24,25,26],[1,5,6,7,8,17,18,19,24,25,26],[1,5,6,8,17,18,19],[1,5,17,18,19],[5]]
def i193b0 : ICode :=
 (.seq (.reg [1,5,6,7,8,17,18,19,24,25,26] [sq 27 (.bin .lss .num (.s 26) (.s 25))])
 (.seq (.cond (.s 27)
 .skip
 (.exit 2))
 (.seq (.block 3
 (.seq (.reg [1,5,6,7,8,17,18,19,24,25,26] [sq 28 (.mv (.s 26)),
 sq 29 (.idxA 1 (.s 24) (.s 26)),
 sq 30 (.load false 1 (.s 29)),
 sa 9 (.mv (.s 28)),
 sa 10 (.mv (.s 30))])
 (.seq (.reg [1,5,6,7,8,9,10,17,18,19,24,25,26] [sq 31 (.mv (.s 8)),
 sq 32 (.mv (.s 7)),
 sq 33 (.conv .u64 (.s 32)),
 sq 34 (.mv (.s 10)),
 sq 35 (.conv .u64 (.s 34)),
 sq 36 (.bin .mul .num (.s 33) (.s 35)),
 sq 37 (.mv (.s 5)),
 sq 38 (.mv (.s 6)),
 sq 39 (.mv (.s 9)),
 sq 40 (.bin .add .num (.s 38) (.s 39)),
 sq 41 (.idxA 1 (.s 37) (.s 40)),
 sq 42 (.load false 1 (.s 41)),
 sq 43 (.conv .u64 (.s 42)),
 sq 44 (.bin .add .num (.s 36) (.s 43)),
 sq 45 (.bin .add .num (.s 31) (.s 44)),
 sa 8 (.mv (.s 45))])
 (.seq (.reg [1,5,6,7,8,9,17,18,19,24,25,26] [sq 46 (.mv (.s 5)),
 sq 47 (.mv (.s 6)),
 sq 48 (.mv (.s 9)),
 sq 49 (.bin .add .num (.s 47) (.s 48)),
 sq 50 (.mv (.s 8)),
 sq 51 (.conv .u32 (.s 50)),
 sq 52 (.idxA 1 (.s 46) (.s 49)),
 se (.store 1 (.s 52) (.s 51))])
 (.reg [1,5,6,7,8,17,18,19,24,25,26] [sq 53 (.mv (.s 8)),
 sq 54 (.bin .shr .num (.s 53) (.c (.int .u64 32))),
 sa 8 (.mv (.s 54))])))))
 (.reg [1,5,6,7,8,17,18,19,24,25,26] [sq 55 (.bin .add .num (.s 26) (.c (.int .i64 1))),
 sq 26 (.mv (.s 55))]))))
def i193b1 : ICode :=
 (.seq (.reg [1,5,17,18,19] [sq 20 (.bin .lss .num (.s 19) (.s 18))])
 (.seq (.cond (.s 20)
 .skip
 (.exit 0))
 (.seq (.block 1
 (.seq (.reg [1,5,17,18,19] [sq 21 (.mv (.s 19)),
 sq 22 (.idxA 1 (.s 17) (.s 19)),
 sq 23 (.load false 1 (.s 22)),
 sa 6 (.mv (.s 21)),
 sa 7 (.mv (.s 23))])
 (.seq (.reg [1,5,6,7,17,18,19] [sa 8 (.mv (.c (.int .u64 0)))])
 (.seq (.seq (.reg [1,5,6,7,8,17,18,19] [sq 24 (.mv (.s 1)),
 sq 25 (.len false (.s 24)),
 sq 26 (.mv (.c (.int .i64 0)))])
 (.block 2
 (.loop [1,5,6,7,8,17,18,19,24,25,26] i193b0)))
 (.reg [1,5,6,8,17,18,19] [sq 56 (.mv (.s 5)),
 sq 57 (.mv (.s 6)),
 sq 58 (.mv (.s 1)),
 sq 59 (.len false (.s 58)),
 sq 60 (.bin .add .num (.s 57) (.s 59)),
 sq 61 (.mv (.s 8)),
 sq 62 (.conv .u32 (.s 61)),
 sq 63 (.idxA 1 (.s 56) (.s 60)),
 se (.store 1 (.s 63) (.s 62))])))))
 (.reg [1,5,17,18,19] [sq 64 (.bin .add .num (.s 19) (.c (.int .i64 1))),
 sq 19 (.mv (.s 64))]))))
def i193 : IFn:={ nparams:=2,ntmps:=67,results:=[.tmp 4],body :=
 (.seq (.reg [0,1] [sa 4 (.mv (.c (.sl .nil [])))])
 (.seq (.reg [0,1] [sq 11 (.mv (.s 0)),
 sq 12 (.len false (.s 11)),
 sq 13 (.mv (.s 1)),
 sq 14 (.len false (.s 13)),
 sq 15 (.bin .add .num (.s 12) (.s 14)),
 sq 16 (.mksl 1 4 (.int .u32 0) (.s 15) (.s 15)),
 sa 5 (.mv (.s 16))])
 (.seq (.seq (.reg [0,1,5] [sq 17 (.mv (.s 0)),
 sq 18 (.len false (.s 17)),
 sq 19 (.mv (.c (.int .i64 0)))])
 (.block 0
 (.loop [1,5,17,18,19] i193b1)))
 (.seq (.reg [5] [sq 65 (.mv (.s 5)),
 sq 66 (.call (.c (.fn (.func 165) [] [])) [(.s 65)]),
 sa 4 (.mv (.s 66))])
 .ret)))) }
theorem tr193 : trF Tryz.prog h193 Tryz.f193 = some i193:=by kernel_rfl
def h194 : List (List Nat):=[[0,1],[0,1],[],[0,1]]
def i194 : IFn:={ nparams:=2,ntmps:=12,results:=[.tmp 4],body :=
 (.seq (.reg [0,1] [sa 4 (.mv (.c (.sl .nil [])))])
 (.seq (.seq (.reg [0,1] [sq 5 (.mv (.s 0)),
 sq 6 (.len false (.s 5)),
 sq 7 (.bin .eql .num (.s 6) (.c (.int .i64 0)))])
 (.cond (.s 7)
 (.seq (.reg [] [sa 4 (.mv (.c (.sl .nil [])))])
 .ret)
 .skip))
 (.seq (.reg [0,1] [sq 8 (.mv (.s 1)),
 sq 9 (.mksl 1 4 (.int .u32 0) (.s 8) (.s 8)),
 sq 10 (.mv (.s 0)),
 sq 11 (.app 1 4 (.s 9) (.s 10)),
 sa 4 (.mv (.s 11))])
 .ret))) }
theorem tr194 : trF Tryz.prog h194 Tryz.f194 = some i194:=by kernel_rfl
end Go.Proofs.YtklelbidjcealaaGreat
set_option maxRecDepth 100000
namespace Go.Proofs.YtklelbidjcealaaGreat
open Go.Ab
def tab : Tr:=(.node 98 i98 (.node 50 i50 (.node 26 i26 (.node 14 i14 (.node 8 i8 (.node 5 i5 (.node 3 i3 (.node 2 i2 .leaf .leaf) (.node 4 i4 .leaf .leaf)) (.node 7 i7 (.node 6 i6 .leaf .leaf) .leaf)) (.node 11 i11 (.node 10 i10 (.node 9 i9 .leaf .leaf) .leaf) (.node 13 i13 (.node 12 i12 .leaf .leaf) .leaf))) (.node 20 i20 (.node 17 i17 (.node 16 i16 (.node 15 i15 .leaf .leaf) .leaf) (.node 19 i19 (.node 18 i18 .leaf .leaf) .leaf)) (.node 23 i23 (.node 22 i22 (.node 21 i21 .leaf .leaf) .leaf) (.node 25 i25 (.node 24 i24 .leaf .leaf) .leaf)))) (.node 38 i38 (.node 32 i32 (.node 29 i29 (.node 28 i28 (.node 27 i27 .leaf .leaf) .leaf) (.node 31 i31 (.node 30 i30 .leaf .leaf) .leaf)) (.node 35 i35 (.node 34 i34 (.node 33 i33 .leaf .leaf) .leaf) (.node 37 i37 (.node 36 i36 .leaf .leaf) .leaf))) (.node 44 i44 (.node 41 i41 (.node 40 i40 (.node 39 i39 .leaf .leaf) .leaf) (.node 43 i43 (.node 42 i42 .leaf .leaf) .leaf)) (.node 47 i47 (.node 46 i46 (.node 45 i45 .leaf .leaf) .leaf) (.node 49 i49 (.node 48 i48 .leaf .leaf) .leaf))))) (.node 74 i74 (.node 62 i62 (.node 56 i56 (.node 53 i53 (.node 52 i52 (.node 51 i51 .leaf .leaf) .leaf) (.node 55 i55 (.node 54 i54 .leaf .leaf) .leaf)) (.node 59 i59 (.node 58 i58 (.node 57 i57 .leaf .leaf) .leaf) (.node 61 i61 (.node 60 i60 .leaf .leaf) .leaf))) (.node 68 i68 (.node 65 i65 (.node 64 i64 (.node 63 i63 .leaf .leaf) .leaf) (.node 67 i67 (.node 66 i66 .leaf .leaf) .leaf)) (.node 71 i71 (.node 70 i70 (.node 69 i69 .leaf .leaf) .leaf) (.node 73 i73 (.node 72 i72 .leaf .leaf) .leaf)))) (.node 86 i86 (.node 80 i80 (.node 77 i77 (.node 76 i76 (.node 75 i75 .leaf .leaf) .leaf) (.node 79 i79 (.node 78 i78 .leaf .leaf) .leaf)) (.node 83 i83 (.node 82 i82 (.node 81 i81 .leaf .leaf) .leaf) (.node 85 i85 (.node 84 i84 .leaf .leaf) .leaf))) (.node 92 i92 (.node 89 i89 (.node 88 i88 (.node 87 i87 .leaf .leaf) .leaf) (.node 91 i91 (.node 90 i90 .leaf .leaf) .leaf)) (.node 95 i95 (.node 94 i94 (.node 93 i93 .leaf .leaf) .leaf) (.node 97 i97 (.node 96 i96 .leaf .leaf) .leaf)))))) (.node 146 i146 (.node 122 i122 (.node 110 i110 (.node 104 i104 (.node 101 i101 (.node 100 i100 (.node 99 i99 .leaf .leaf) .leaf) (.node 103 i103 (.node 102 i102 .leaf .leaf) .leaf)) (.node 107 i107 (.node 106 i106 (.node 105 i105 .leaf .leaf) .leaf) (.node 109 i109 (.node 108 i108 .leaf .leaf) .leaf))) (.node 116 i116 (.node 113 i113 (.node 112 i112 (.node 111 i111 .leaf .leaf) .leaf) (.node 115 i115 (.node 114 i114 .leaf .leaf) .leaf)) (.node 119 i119 (.node 118 i118 (.node 117 i117 .leaf .leaf) .leaf) (.node 121 i121 (.node 120 i120 .leaf .leaf) .leaf)))) (.node 134 i134 (.node 128 i128 (.node 125 i125 (.node 124 i124 (.node 123 i123 .leaf .leaf) .leaf) (.node 127 i127 (.node 126 i126 .leaf .leaf) .leaf)) (.node 131 i131 (.node 130 i130 (.node 129 i129 .leaf .leaf) .leaf) (.node 133 i133 (.node 132 i132 .leaf .leaf) .leaf))) (.node 140 i140 (.node 137 i137 (.node 136 i136 (.node 135 i135 .leaf .leaf) .leaf) (.node 139 i139 (.node 138 i138 .leaf .leaf) .leaf)) (.node 143 i143 (.node 142 i142 (.node 141 i141 .leaf .leaf) .leaf) (.node 145 i145 (.node 144 i144 .leaf .leaf) .leaf))))) (.node 171 i171 (.node 158 i158 (.node 152 i152 (.node 149 i149 (.node 148 i148 (.node 147 i147 .leaf .leaf) .leaf) (.node 151 i151 (.node 150 i150 .leaf .leaf) .leaf)) (.node 155 i155 (.node 154 i154 (.node 153 i153 .leaf .leaf) .leaf) (.node 157 i157 (.node 156 i156 .leaf .leaf) .leaf))) (.node 165 i165 (.node 161 i161 (.node 160 i160 (.node 159 i159 .leaf .leaf) .leaf) (.node 163 i163 (.node 162 i162 .leaf .leaf) .leaf)) (.node 168 i168 (.node 167 i167 (.node 166 i166 .leaf .leaf) .leaf) (.node 170 i170 (.node 169 i169 .leaf .leaf) .leaf)))) (.node 183 i183 (.node 177 i177 (.node 174 i174 (.node 173 i173 (.node 172 i172 .leaf .leaf) .leaf) (.node 176 i176 (.node 175 i175 .leaf .leaf) .leaf)) (.node 180 i180 (.node 179 i179 (.node 178 i178 .leaf .leaf) .leaf) (.node 182 i182 (.node 181 i181 .leaf .leaf) .leaf))) (.node 189 i189 (.node 186 i186 (.node 185 i185 (.node 184 i184 .leaf .leaf) .leaf) (.node 188 i188 (.node 187 i187 .leaf .leaf) .leaf)) (.node 192 i192 (.node 191 i191 (.node 190 i190 .leaf .leaf) .leaf) (.node 194 i194 (.node 193 i193 .leaf .leaf) .leaf)))))))
theorem tab_ok : tab.All Tryz.prog:=⟨⟨Tryz.f98,h98,Tryz.func98,tr98⟩,⟨⟨Tryz.f50,h50,Tryz.func50,tr50⟩,⟨⟨Tryz.f26,h26,Tryz.func26,tr26⟩,⟨⟨Tryz.f14,h14,Tryz.func14,tr14⟩,⟨⟨Tryz.f8,h8,Tryz.func8,tr8⟩,⟨⟨Tryz.f5,h5,Tryz.func5,tr5⟩,⟨⟨Tryz.f3,h3,Tryz.func3,tr3⟩,⟨⟨Tryz.f2,h2,Tryz.func2,tr2⟩,trivial,trivial⟩,⟨⟨Tryz.f4,h4,Tryz.func4,tr4⟩,trivial,trivial⟩⟩,⟨⟨Tryz.f7,h7,Tryz.func7,tr7⟩,⟨⟨Tryz.f6,h6,Tryz.func6,tr6⟩,trivial,trivial⟩,trivial⟩⟩,⟨⟨Tryz.f11,h11,Tryz.func11,tr11⟩,⟨⟨Tryz.f10,h10,Tryz.func10,tr10⟩,⟨⟨Tryz.f9,h9,Tryz.func9,tr9⟩,trivial,trivial⟩,trivial⟩,⟨⟨Tryz.f13,h13,Tryz.func13,tr13⟩,⟨⟨Tryz.f12,h12,Tryz.func12,tr12⟩,trivial,trivial⟩,trivial⟩⟩⟩,⟨⟨Tryz.f20,h20,Tryz.func20,tr20⟩,⟨⟨Tryz.f17,h17,Tryz.func17,tr17⟩,⟨⟨Tryz.f16,h16,Tryz.func16,tr16⟩,⟨⟨Tryz.f15,h15,Tryz.func15,tr15⟩,trivial,trivial⟩,trivial⟩,⟨⟨Tryz.f19,h19,Tryz.func19,tr19⟩,⟨⟨Tryz.f18,h18,Tryz.func18,tr18⟩,trivial,trivial⟩,trivial⟩⟩,⟨⟨Tryz.f23,h23,Tryz.func23,tr23⟩,⟨⟨Tryz.f22,h22,Tryz.func22,tr22⟩,⟨⟨Tryz.f21,h21,Tryz.func21,tr21⟩,trivial,trivial⟩,trivial⟩,⟨⟨Tryz.f25,h25,Tryz.func25,tr25⟩,⟨⟨Tryz.f24,h24,Tryz.func24,tr24⟩,trivial,trivial⟩,trivial⟩⟩⟩⟩,⟨⟨Tryz.f38,h38,Tryz.func38,tr38⟩,⟨⟨Tryz.f32,h32,Tryz.func32,tr32⟩,⟨⟨Tryz.f29,h29,Tryz.func29,tr29⟩,⟨⟨Tryz.f28,h28,Tryz.func28,tr28⟩,⟨⟨Tryz.f27,h27,Tryz.func27,tr27⟩,trivial,trivial⟩,trivial⟩,⟨⟨Tryz.f31,h31,Tryz.func31,tr31⟩,⟨⟨Tryz.f30,h30,Tryz.func30,tr30⟩,trivial,trivial⟩,trivial⟩⟩,⟨⟨Tryz.f35,h35,Tryz.func35,tr35⟩,⟨⟨Tryz.f34,h34,Tryz.func34,tr34⟩,⟨⟨Tryz.f33,h33,Tryz.func33,tr33⟩,trivial,trivial⟩,trivial⟩,⟨⟨Tryz.f37,h37,Tryz.func37,tr37⟩,⟨⟨Tryz.f36,h36,Tryz.func36,tr36⟩,trivial,trivial⟩,trivial⟩⟩⟩,⟨⟨Tryz.f44,h44,Tryz.func44,tr44⟩,⟨⟨Tryz.f41,h41,Tryz.func41,tr41⟩,⟨⟨Tryz.f40,h40,Tryz.func40,tr40⟩,⟨⟨Tryz.f39,h39,Tryz.func39,tr39⟩,trivial,trivial⟩,trivial⟩,⟨⟨Tryz.f43,h43,Tryz.func43,tr43⟩,⟨⟨Tryz.f42,h42,Tryz.func42,tr42⟩,trivial,trivial⟩,trivial⟩⟩,⟨⟨Tryz.f47,h47,Tryz.func47,tr47⟩,⟨⟨Tryz.f46,h46,Tryz.func46,tr46⟩,⟨⟨Tryz.f45,h45,Tryz.func45,tr45⟩,trivial,trivial⟩,trivial⟩,⟨⟨Tryz.f49,h49,Tryz.func49,tr49⟩,⟨⟨Tryz.f48,h48,Tryz.func48,tr48⟩,trivial,trivial⟩,trivial⟩⟩⟩⟩⟩,⟨⟨Tryz.f74,h74,Tryz.func74,tr74⟩,⟨⟨Tryz.f62,h62,Tryz.func62,tr62⟩,⟨⟨Tryz.f56,h56,Tryz.func56,tr56⟩,⟨⟨Tryz.f53,h53,Tryz.func53,tr53⟩,⟨⟨Tryz.f52,h52,Tryz.func52,tr52⟩,⟨⟨Tryz.f51,h51,Tryz.func51,tr51⟩,trivial,trivial⟩,trivial⟩,⟨⟨Tryz.f55,h55,Tryz.func55,tr55⟩,⟨⟨Tryz.f54,h54,Tryz.func54,tr54⟩,trivial,trivial⟩,trivial⟩⟩,⟨⟨Tryz.f59,h59,Tryz.func59,tr59⟩,⟨⟨Tryz.f58,h58,Tryz.func58,tr58⟩,⟨⟨Tryz.f57,h57,Tryz.func57,tr57⟩,trivial,trivial⟩,trivial⟩,⟨⟨Tryz.f61,h61,Tryz.func61,tr61⟩,⟨⟨Tryz.f60,h60,Tryz.func60,tr60⟩,trivial,trivial⟩,trivial⟩⟩⟩,⟨⟨Tryz.f68,h68,Tryz.func68,tr68⟩,⟨⟨Tryz.f65,h65,Tryz.func65,tr65⟩,⟨⟨Tryz.f64,h64,Tryz.func64,tr64⟩,⟨⟨Tryz.f63,h63,Tryz.func63,tr63⟩,trivial,trivial⟩,trivial⟩,⟨⟨Tryz.f67,h67,Tryz.func67,tr67⟩,⟨⟨Tryz.f66,h66,Tryz.func66,tr66⟩,trivial,trivial⟩,trivial⟩⟩,⟨⟨Tryz.f71,h71,Tryz.func71,tr71⟩,⟨⟨Tryz.f70,h70,Tryz.func70,tr70⟩,⟨⟨Tryz.f69,h69,Tryz.func69,tr69⟩,trivial,trivial⟩,trivial⟩,⟨⟨Tryz.f73,h73,Tryz.func73,tr73⟩,⟨⟨Tryz.f72,h72,Tryz.func72,tr72⟩,trivial,trivial⟩,trivial⟩⟩⟩⟩,⟨⟨Tryz.f86,h86,Tryz.func86,tr86⟩,⟨⟨Tryz.f80,h80,Tryz.func80,tr80⟩,⟨⟨Tryz.f77,h77,Tryz.func77,tr77⟩,⟨⟨Tryz.f76,h76,Tryz.func76,tr76⟩,⟨⟨Tryz.f75,h75,Tryz.func75,tr75⟩,trivial,trivial⟩,trivial⟩,⟨⟨Tryz.f79,h79,Tryz.func79,tr79⟩,⟨⟨Tryz.f78,h78,Tryz.func78,tr78⟩,trivial,trivial⟩,trivial⟩⟩,⟨⟨Tryz.f83,h83,Tryz.func83,tr83⟩,⟨⟨Tryz.f82,h82,Tryz.func82,tr82⟩,⟨⟨Tryz.f81,h81,Tryz.func81,tr81⟩,trivial,trivial⟩,trivial⟩,⟨⟨Tryz.f85,h85,Tryz.func85,tr85⟩,⟨⟨Tryz.f84,h84,Tryz.func84,tr84⟩,trivial,trivial⟩,trivial⟩⟩⟩,⟨⟨Tryz.f92,h92,Tryz.func92,tr92⟩,⟨⟨Tryz.f89,h89,Tryz.func89,tr89⟩,⟨⟨Tryz.f88,h88,Tryz.func88,tr88⟩,⟨⟨Tryz.f87,h87,Tryz.func87,tr87⟩,trivial,trivial⟩,trivial⟩,⟨⟨Tryz.f91,h91,Tryz.func91,tr91⟩,⟨⟨Tryz.f90,h90,Tryz.func90,tr90⟩,trivial,trivial⟩,trivial⟩⟩,⟨⟨Tryz.f95,h95,Tryz.func95,tr95⟩,⟨⟨Tryz.f94,h94,Tryz.func94,tr94⟩,⟨⟨Tryz.f93,h93,Tryz.func93,tr93⟩,trivial,trivial⟩,trivial⟩,⟨⟨Tryz.f97,h97,Tryz.func97,tr97⟩,⟨⟨Tryz.f96,h96,Tryz.func96,tr96⟩,trivial,trivial⟩,trivial⟩⟩⟩⟩⟩⟩,⟨⟨Tryz.f146,h146,Tryz.func146,tr146⟩,⟨⟨Tryz.f122,h122,Tryz.func122,tr122⟩,⟨⟨Tryz.f110,h110,Tryz.func110,tr110⟩,⟨⟨Tryz.f104,h104,Tryz.func104,tr104⟩,⟨⟨Tryz.f101,h101,Tryz.func101,tr101⟩,⟨⟨Tryz.f100,h100,Tryz.func100,tr100⟩,⟨⟨Tryz.f99,h99,Tryz.func99,tr99⟩,trivial,trivial⟩,trivial⟩,⟨⟨Tryz.f103,h103,Tryz.func103,tr103⟩,⟨⟨Tryz.f102,h102,Tryz.func102,tr102⟩,trivial,trivial⟩,trivial⟩⟩,⟨⟨Tryz.f107,h107,Tryz.func107,tr107⟩,⟨⟨Tryz.f106,h106,Tryz.func106,tr106⟩,⟨⟨Tryz.f105,h105,Tryz.func105,tr105⟩,trivial,trivial⟩,trivial⟩,⟨⟨Tryz.f109,h109,Tryz.func109,tr109⟩,⟨⟨Tryz.f108,h108,Tryz.func108,tr108⟩,trivial,trivial⟩,trivial⟩⟩⟩,⟨⟨Tryz.f116,h116,Tryz.func116,tr116⟩,⟨⟨Tryz.f113,h113,Tryz.func113,tr113⟩,⟨⟨Tryz.f112,h112,Tryz.func112,tr112⟩,⟨⟨Tryz.f111,h111,Tryz.func111,tr111⟩,trivial,trivial⟩,trivial⟩,⟨⟨Tryz.f115,h115,Tryz.func115,tr115⟩,⟨⟨Tryz.f114,h114,Tryz.func114,tr114⟩,trivial,trivial⟩,trivial⟩⟩,⟨⟨Tryz.f119,h119,Tryz.func119,tr119⟩,⟨⟨Tryz.f118,h118,Tryz.func118,tr118⟩,⟨⟨Tryz.f117,h117,Tryz.func117,tr117⟩,trivial,trivial⟩,trivial⟩,⟨⟨Tryz.f121,h121,Tryz.func121,tr121⟩,⟨⟨Tryz.f120,h120,Tryz.func120,tr120⟩,trivial,trivial⟩,trivial⟩⟩⟩⟩,⟨⟨Tryz.f134,h134,Tryz.func134,tr134⟩,⟨⟨Tryz.f128,h128,Tryz.func128,tr128⟩,⟨⟨Tryz.f125,h125,Tryz.func125,tr125⟩,⟨⟨Tryz.f124,h124,Tryz.func124,tr124⟩,⟨⟨Tryz.f123,h123,Tryz.func123,tr123⟩,trivial,trivial⟩,trivial⟩,⟨⟨Tryz.f127,h127,Tryz.func127,tr127⟩,⟨⟨Tryz.f126,h126,Tryz.func126,tr126⟩,trivial,trivial⟩,trivial⟩⟩,⟨⟨Tryz.f131,h131,Tryz.func131,tr131⟩,⟨⟨Tryz.f130,h130,Tryz.func130,tr130⟩,⟨⟨Tryz.f129,h129,Tryz.func129,tr129⟩,trivial,trivial⟩,trivial⟩,⟨⟨Tryz.f133,h133,Tryz.func133,tr133⟩,⟨⟨Tryz.f132,h132,Tryz.func132,tr132⟩,trivial,trivial⟩,trivial⟩⟩⟩,⟨⟨Tryz.f140,h140,Tryz.func140,tr140⟩,⟨⟨Tryz.f137,h137,Tryz.func137,tr137⟩,⟨⟨Tryz.f136,h136,Tryz.func136,tr136⟩,⟨⟨Tryz.f135,h135,Tryz.func135,tr135⟩,trivial,trivial⟩,trivial⟩,⟨⟨Tryz.f139,h139,Tryz.func139,tr139⟩,⟨⟨Tryz.f138,h138,Tryz.func138,tr138⟩,trivial,trivial⟩,trivial⟩⟩,⟨⟨Tryz.f143,h143,Tryz.func143,tr143⟩,⟨⟨Tryz.f142,h142,Tryz.func142,tr142⟩,⟨⟨Tryz.f141,h141,Tryz.func141,tr141⟩,trivial,trivial⟩,trivial⟩,⟨⟨Tryz.f145,h145,Tryz.func145,tr145⟩,⟨⟨Tryz.f144,h144,Tryz.func144,tr144⟩,trivial,trivial⟩,trivial⟩⟩⟩⟩⟩,⟨⟨Tryz.f171,h171,Tryz.func171,tr171⟩,⟨⟨Tryz.f158,h158,Tryz.func158,tr158⟩,⟨⟨Tryz.f152,h152,Tryz.func152,tr152⟩,⟨⟨Tryz.f149,h149,Tryz.func149,tr149⟩,⟨⟨Tryz.f148,h148,Tryz.func148,tr148⟩,⟨⟨Tryz.f147,h147,Tryz.func147,tr147⟩,trivial,trivial⟩,trivial⟩,⟨⟨Tryz.f151,h151,Tryz.func151,tr151⟩,⟨⟨Tryz.f150,h150,Tryz.func150,tr150⟩,trivial,trivial⟩,trivial⟩⟩,⟨⟨Tryz.f155,h155,Tryz.func155,tr155⟩,⟨⟨Tryz.f154,h154,Tryz.func154,tr154⟩,⟨⟨Tryz.f153,h153,Tryz.func153,tr153⟩,trivial,trivial⟩,trivial⟩,⟨⟨Tryz.f157,h157,Tryz.func157,tr157⟩,⟨⟨Tryz.f156,h156,Tryz.func156,tr156⟩,trivial,trivial⟩,trivial⟩⟩⟩,⟨⟨Tryz.f165,h165,Tryz.func165,tr165⟩,⟨⟨Tryz.f161,h161,Tryz.func161,tr161⟩,⟨⟨Tryz.f160,h160,Tryz.func160,tr160⟩,⟨⟨Tryz.f159,h159,Tryz.func159,tr159⟩,trivial,trivial⟩,trivial⟩,⟨⟨Tryz.f163,h163,Tryz.func163,tr163⟩,⟨⟨Tryz.f162,h162,Tryz.func162,tr162⟩,trivial,trivial⟩,trivial⟩⟩,⟨⟨Tryz.f168,h168,Tryz.func168,tr168⟩,⟨⟨Tryz.f167,h167,Tryz.func167,tr167⟩,⟨⟨Tryz.f166,h166,Tryz.func166,tr166⟩,trivial,trivial⟩,trivial⟩,⟨⟨Tryz.f170,h170,Tryz.func170,tr170⟩,⟨⟨Tryz.f169,h169,Tryz.func169,tr169⟩,trivial,trivial⟩,trivial⟩⟩⟩⟩,⟨⟨Tryz.f183,h183,Tryz.func183,tr183⟩,⟨⟨Tryz.f177,h177,Tryz.func177,tr177⟩,⟨⟨Tryz.f174,h174,Tryz.func174,tr174⟩,⟨⟨Tryz.f173,h173,Tryz.func173,tr173⟩,⟨⟨Tryz.f172,h172,Tryz.func172,tr172⟩,trivial,trivial⟩,trivial⟩,⟨⟨Tryz.f176,h176,Tryz.func176,tr176⟩,⟨⟨Tryz.f175,h175,Tryz.func175,tr175⟩,trivial,trivial⟩,trivial⟩⟩,⟨⟨Tryz.f180,h180,Tryz.func180,tr180⟩,⟨⟨Tryz.f179,h179,Tryz.func179,tr179⟩,⟨⟨Tryz.f178,h178,Tryz.func178,tr178⟩,trivial,trivial⟩,trivial⟩,⟨⟨Tryz.f182,h182,Tryz.func182,tr182⟩,⟨⟨Tryz.f181,h181,Tryz.func181,tr181⟩,trivial,trivial⟩,trivial⟩⟩⟩,⟨⟨Tryz.f189,h189,Tryz.func189,tr189⟩,⟨⟨Tryz.f186,h186,Tryz.func186,tr186⟩,⟨⟨Tryz.f185,h185,Tryz.func185,tr185⟩,⟨⟨Tryz.f184,h184,Tryz.func184,tr184⟩,trivial,trivial⟩,trivial⟩,⟨⟨Tryz.f188,h188,Tryz.func188,tr188⟩,⟨⟨Tryz.f187,h187,Tryz.func187,tr187⟩,trivial,trivial⟩,trivial⟩⟩,⟨⟨Tryz.f192,h192,Tryz.func192,tr192⟩,⟨⟨Tryz.f191,h191,Tryz.func191,tr191⟩,⟨⟨Tryz.f190,h190,Tryz.func190,tr190⟩,trivial,trivial⟩,trivial⟩,⟨⟨Tryz.f194,h194,Tryz.func194,tr194⟩,⟨⟨Tryz.f193,h193,Tryz.func193,tr193⟩,trivial,trivial⟩,trivial⟩⟩⟩⟩⟩⟩⟩
end Go.Proofs.YtklelbidjcealaaGreat
namespace Go.Proofs.YtklelbidjcealaaGreat
open Go.Ab
def an : Ann := { inh := fun f => memN f [130, 183, 184, 189, 188], raw := fun c f => memP c f [(156, 181), (105, 93), (93, 132)] }
theorem an_inh (f : Nat) : an.inh f = memN f [130, 183, 184, 189, 188] := rfl
theorem an_raw (c f : Nat) : an.raw c f = memP c f [(156, 181), (105, 93), (93, 132)] := rfl
end Go.Proofs.YtklelbidjcealaaGreat
/- The evaluator's rules, gathered for the simplifier. No further condition. -/
namespace Go.Proofs.YtklelbidjcealaaGreat
open Go Go.Ab
attribute [go_sem ↓] pW_skip pW_ret pW_exit pW_seq pW_block pW_cond pW_reg tQ_normal tQ_exit tQ_ret oQ_normal oQ_ret
attribute [go_sem ↓] oQ_same oQ_other lQ_normal lQ_exit lQ_ret eQ_ret eQ_normal eL_ret eL_normal pS_nil pS_q pS_a
attribute [go_sem ↓] pS_e pS_g pO_mv pO_bin pO_un pO_len pO_conv pO_pick pO_nilc pO_load pO_slice pO_fldA
attribute [go_sem ↓] pO_fld pO_idxS pO_mx pO_mn pO_extr pO_idxA pO_build pO_bsl pO_mkfn pO_box pO_store pO_alloc
attribute [go_sem ↓] pO_mksl pO_app pO_call pW_draw' pD_nil pD_q pD_a pD_e pD_g pD_step evQ_callV evQ_mvV
attribute [go_sem ↓] evQ_pickV evQ_idxV List.map_cons List.map_nil List.flatMap_cons List.flatMap_nil List.any_cons List.any_nil ld_agg st_agg2 okPart_agg2 len_agg2
attribute [go_sem ↓] st_agg4 okPart_agg4 len_agg4 pRQ_nil pRQ_0 pRQ_1 pRQ_3 pRQ_q pRQ_g pRS_nil pRS_0 pRS_1
attribute [go_sem ↓] pRS_2 pRS_q pRS_g
attribute [go_sem] pC_t pC_f pG_tt pG_ff pG_tf pG_ft callQ_t callQ_f fzQ_mk bq_some bq_bind bq_map
attribute [go_sem] bq3_some bq3_some' bq3_bind bq3_map an_inh an_raw memN memP mvV_fv mvV_ref mvV_ptr mvV_clo
attribute [go_sem] convV pickV idxV evQ evA IOp.acts mvOf_q mvOf_a mvOf_e mvOf_mk mvOf_mk' mvOp
attribute [go_sem] movedTo preOpd preOpds preParts2 preParts1 preOp preStep_q preStep_a preStep_e preStep_mk preSteps evBin
attribute [go_sem] evUn evInt evShift lenSl ld_aggl ldAgg st_aggl cells_agg okPart_aggl one_agg cells_int cells_bool
attribute [go_sem] cells_str cells_sl cells_fn cells_nilFn cells_ptr cells_nilPtr cells_iface cells_nilIface okPart_int okPart_bool okPart_str okPart_sl
attribute [go_sem] okPart_fn okPart_nilFn okPart_ptr okPart_nilPtr okPart_iface okPart_nilIface one_int one_bool one_str one_sl one_fn one_nilFn
attribute [go_sem] one_ptr one_nilPtr one_iface one_nilIface ld_int ld_bool ld_str ld_sl ld_fn ld_nilFn ld_ptr ld_nilPtr
attribute [go_sem] ld_iface ld_nilIface st_int st_bool st_str st_sl st_fn st_nilFn st_ptr st_nilPtr st_iface st_nilIface
attribute [go_sem] opd_s opd_c getPut getKeep putO argEnv Env.get frzs frz1 SV.ids Cap.ids SV.refIds
attribute [go_sem] SV.live ent setE toFV toFVs rdSl bnds bnd parts1 parts2 fillF fillS
attribute [go_sem] Ent.fz evRess evRes finish keepsOwn rawCall callee callV_fn minOne mkCaps mkCap capsFv?
attribute [go_sem] Cap.fv? isNil isNilC decide_true decide_false decide_not Bool.false_eq_true Bool.true_eq_false Bool.not_true Bool.not_false Bool.and_true Bool.true_and
attribute [go_sem] Bool.and_false Bool.false_and Bool.or_true Bool.true_or Bool.or_false Bool.false_or if_true if_false and_true true_and and_false false_and
attribute [go_sem] true_or or_true or_false false_or not_true not_false_eq_true eq_self ne_eq decide_eq_true_eq decide_eq_false_iff_not Int.toNat_natCast List.length_cons
attribute [go_sem] List.length_nil List.length_map List.getElem?_map List.getElem?_cons_zero List.getElem?_cons_succ List.getElem?_nil List.getD_cons_zero List.getD_cons_succ List.mem_cons List.not_mem_nil List.map_eq_nil_iff Option.map_some
attribute [go_sem] Option.map_none Option.bind_some Option.bind_none Option.getD_some Option.getD_none Option.isNone_none Option.isNone_some List.length_append List.nil_append List.cons_append List.append_nil List.set_cons_zero
attribute [go_sem] List.set_cons_succ List.set_nil List.replicate_zero forall_const exists_false imp_self List.reverse_nil beq_self_eq_true Nat.add_zero Nat.zero_add Nat.sub_zero Int.add_zero
attribute [go_sem] Int.zero_add Int.sub_zero wid_u32s wid_i64s agg_cells2 repl1 repl2 repl3 repl4 Nat.min_def foldAdd foldMul
attribute [go_sem] foldSub foldSub1 foldAddL foldMulL foldMulL' foldSubL foldDiv foldDivL foldMod foldModL foldShr0 foldShr
attribute [go_sem] natAdd1 wrapU32 wrapU64 wrapSub64 wrapSub32 u32s_set i64s_set u32s_append i64s_append accS_nil accL_nil wid_nil
attribute [go_sem] wid_cons idBeq_ll idBeq_bb idBeq_lb idBeq_bl i64s_snoc i64s_snoc2 u32s_snoc List.length_replicate u32s_zeros i64s_zeros wrapI64
attribute [go_sem] IntWalk.i64_in IntWalk.u64_in IntWalk.u32_in IntWalk.u8_in IntWalk.i32_in bitsU64 bitsU32 bitsI64 bitsU8 Nat.mod_eq_of_lt dlt_t dlt_f
attribute [go_sem] dle_t dle_f dgt_t dgt_f dge_t dge_f beq_t beq_f bne_t bne_f bq_if_t bq_ifn_t
attribute [go_sem] bq3_if_t bq3_ifn_t get0 Int.natCast_zero Int.natCast_one Int.natCast_nonneg Nat.add_sub_cancel Int.sub_self Nat.sub_self Int.toNat_zero Int.toNat_one List.drop_zero
attribute [go_sem] List.take_zero List.take_nil List.take_succ_cons List.drop_succ_cons List.drop_nil List.modify_succ_cons List.modify_zero_cons List.take_of_length_le cutL_map gc_mk gcW gcV
attribute [go_sem] snap renE namedIn sweep pickE gcR_l gcR_b posIn SV.ren Cap.ren range0 range1
attribute [go_sem] range2 range3 range4 List.contains_nil List.contains_cons Id.l.injEq Id.b.injEq evI selOf dedup1 dedup0 callArgs
attribute [go_sem] downTo1 upFrom wb_nil wb_cons capArg drawA_nil drawA_c drawEnts_c drawEnts_nil allocV allocE IOp.isAlloc
attribute [go_sem] cond_true cond_false hide_no mask_no rest_no frzU_no okP_fv okP_nil frzU quietAt
theorem J1 {α : Type} (a b : List α) : (a ++ b).length = a.length + b.length := List.length_append
theorem J2 {α : Type} (x : α) (l : List α) : (x :: l).length = l.length + 1 := List.length_cons
theorem J3 {α : Type} : ([] : List α).length = 0 := List.length_nil
theorem J4 {α : Type} (n : Nat) (x : α) : (List.replicate n x).length = n := List.length_replicate
theorem J5 {α : Type} (l : List α) (i : Nat) (x : α) : (l.set i x).length = l.length := List.length_set
theorem J6 {α β : Type} (f : α → β) (l : List α) : (l.map f).length = l.length := List.length_map ..
theorem J7 {α : Type} (i : Nat) (l : List α) : (l.take i).length = min i l.length := List.length_take
theorem J8 {α : Type} (i : Nat) (l : List α) : (l.drop i).length = l.length - i := List.length_drop
end Go.Proofs.YtklelbidjcealaaGreat
namespace Go.Ab
def val (b : Nat) : List Nat → Nat
  | [] => 0
  | x :: r => x + b * val b r
def digs (b n : Nat) : List Nat :=
  if h : n = 0 ∨ b < 2 then [] else n % b :: digs b (n / b)
termination_by n
decreasing_by exact Nat.div_lt_self (by omega) (by omega)
def Dg (b : Nat) (xs : List Nat) : Prop := ∀ x ∈ xs, x < b
theorem val_nil (b : Nat) : val b [] = 0 := rfl
theorem val_cons (b x : Nat) (r : List Nat) : val b (x :: r) = x + b * val b r := rfl
theorem val_append (b : Nat) (xs ys : List Nat) : val b (xs ++ ys) = val b xs + b ^ xs.length * val b ys := by
  induction xs with
  | nil => simp [val]
  | cons x r ih =>
    simp only [List.cons_append, val, ih, List.length_cons, Nat.pow_succ, Nat.mul_add, Nat.add_assoc]
    congr 2
    rw [← Nat.mul_assoc, Nat.mul_comm b]
theorem val_single (b x : Nat) : val b [x] = x := by simp [val]
theorem val_snoc (b x : Nat) (xs : List Nat) : val b (xs ++ [x]) = val b xs + b ^ xs.length * x := by rw [val_append, val_single]
theorem Dg.nil {b : Nat} : Dg b [] := fun _ h => by cases h
theorem Dg.cons {b x : Nat} {r : List Nat} (h : x < b) (k : Dg b r) : Dg b (x :: r) := fun y hy => by
  rcases List.mem_cons.1 hy with rfl | hy
  · exact h
  · exact k y hy
theorem Dg.append {b : Nat} {xs ys : List Nat} (h : Dg b xs) (k : Dg b ys) : Dg b (xs ++ ys) := fun y hy => by
  rcases List.mem_append.1 hy with hy | hy
  · exact h y hy
  · exact k y hy
theorem Dg.take {b : Nat} {xs : List Nat} (h : Dg b xs) (n : Nat) : Dg b (xs.take n) := fun y hy => h y (List.mem_of_mem_take hy)
theorem Dg.drop {b : Nat} {xs : List Nat} (h : Dg b xs) (n : Nat) : Dg b (xs.drop n) := fun y hy => h y (List.mem_of_mem_drop hy)
theorem Dg.get {b i v : Nat} {xs : List Nat} (h : Dg b xs) (hv : xs[i]? = some v) : v < b := h v (List.mem_of_getElem? hv)
theorem Dg.zeros {b : Nat} (hb : 0 < b) (n : Nat) : Dg b (List.replicate n 0) := fun y hy => by rw [List.eq_of_mem_replicate hy]; exact hb
theorem Dg.tail {b x : Nat} {r : List Nat} (h : Dg b (x :: r)) : Dg b r := fun y hy => h y (List.mem_cons_of_mem _ hy)
theorem Dg.head {b x : Nat} {r : List Nat} (h : Dg b (x :: r)) : x < b := h x (List.mem_cons_self ..)
theorem Dg.set {b i v : Nat} {xs : List Nat} (h : Dg b xs) (hv : v < b) : Dg b (xs.set i v) := fun y hy => by
  rcases List.mem_or_eq_of_mem_set hy with h' | rfl
  · exact h y h'
  · exact hv
theorem val_lt {b : Nat} {xs : List Nat} (h : Dg b xs) : val b xs < b ^ xs.length := by
  induction xs with
  | nil => simp [val]
  | cons x r ih =>
    have h1 := ih h.tail
    have h2 := h.head
    simp only [val, List.length_cons, Nat.pow_succ]
    have : b * (val b r + 1) ≤ b * b ^ r.length := Nat.mul_le_mul_left _ h1
    rw [Nat.mul_comm (b ^ r.length)]
    rw [Nat.mul_add] at this
    omega
theorem val_zeros (b n : Nat) : val b (List.replicate n 0) = 0 := by
  induction n with
  | zero => rfl
  | succ n ih => simp [List.replicate_succ, val, ih]
theorem val_all0 {b : Nat} {xs : List Nat} (h : ∀ x ∈ xs, x = 0) : val b xs = 0 := by
  induction xs with
  | nil => rfl
  | cons x r ih => simp [val, h x (by simp), ih fun y hy => h y (by simp [hy])]
theorem val_take {b n : Nat} {xs : List Nat} (h : ∀ x ∈ xs.drop n, x = 0) : val b (xs.take n) = val b xs := by
  conv => rhs; rw [← List.take_append_drop n xs, val_append, val_all0 h]
  simp
theorem val_take_succ {b i v : Nat} {xs : List Nat} (h : xs[i]? = some v) : val b (xs.take (i + 1)) = val b (xs.take i) + b ^ i * v := by
  have hi : i < xs.length := (List.getElem?_eq_some_iff.1 h).1
  rw [List.take_add_one, h, Option.toList_some, val_snoc, List.length_take, Nat.min_eq_left (Nat.le_of_lt hi)]
theorem val_take_all {b i : Nat} {xs : List Nat} (h : xs.length ≤ i) : val b (xs.take i) = val b xs := by rw [List.take_of_length_le h]
theorem digs_zero (b : Nat) : digs b 0 = [] := by rw [digs]; simp
theorem digs_pos {b n : Nat} (hb : 2 ≤ b) (hn : 0 < n) : digs b n = n % b :: digs b (n / b) := by
  rw [digs, dif_neg (by omega)]
theorem digs_Dg {b : Nat} (hb : 2 ≤ b) : ∀ (n : Nat), Dg b (digs b n) := by
  intro n
  induction n using Nat.strongRecOn with
  | _ n ih =>
    rcases Nat.eq_zero_or_pos n with rfl | hn
    · rw [digs_zero]; exact .nil
    · rw [digs_pos hb hn]
      exact .cons (Nat.mod_lt _ (by omega)) (ih _ (Nat.div_lt_self hn (by omega)))
theorem val_digs {b : Nat} (hb : 2 ≤ b) : ∀ (n : Nat), val b (digs b n) = n := by
  intro n
  induction n using Nat.strongRecOn with
  | _ n ih =>
    rcases Nat.eq_zero_or_pos n with rfl | hn
    · rw [digs_zero]; rfl
    · rw [digs_pos hb hn, val, ih _ (Nat.div_lt_self hn (by omega))]
      exact Nat.mod_add_div n b
theorem digs_len {b : Nat} (hb : 2 ≤ b) : ∀ (k n : Nat), n < b ^ k → (digs b n).length ≤ k
  | 0, n, h => by
    have : n = 0 := by simpa using h
    subst this; simp [digs_zero]
  | k + 1, n, h => by
    rcases Nat.eq_zero_or_pos n with rfl | hn
    · simp [digs_zero]
    · rw [digs_pos hb hn, List.length_cons]
      have : n / b < b ^ k := by
        rw [Nat.div_lt_iff_lt_mul (by omega)]; rwa [Nat.pow_succ] at h
      have := digs_len hb k (n / b) this
      omega
theorem digs_nil {b n : Nat} (hb : 2 ≤ b) : digs b n = [] ↔ n = 0 := by
  constructor
  · intro h
    rw [← val_digs hb n, h]; rfl
  · rintro rfl; exact digs_zero b
theorem digs_len0 {b n : Nat} (hb : 2 ≤ b) : (digs b n).length = 0 ↔ n = 0 := by rw [List.length_eq_zero_iff, digs_nil hb]
theorem eq_digs {b : Nat} (hb : 2 ≤ b) : ∀ {xs : List Nat}, Dg b xs → (∀ v, xs.getLast? = some v → v ≠ 0) → xs = digs b (val b xs)
  | [], _, _ => by rw [val_nil, digs_zero]
  | x :: r, h, hl => by
    have hr : ∀ v, r.getLast? = some v → v ≠ 0 := by
      intro v hv
      apply hl v
      cases r with
      | nil => cases hv
      | cons y r => rw [List.getLast?_cons_cons]; exact hv
    have ih := eq_digs hb h.tail hr
    have hpos : 0 < val b (x :: r) := by
      rcases Nat.eq_zero_or_pos (val b r) with h0 | h0
      · have : r = [] := by rw [ih, h0, digs_zero]
        subst this
        have := hl x (by simp)
        simp only [val]; omega
      · simp only [val]
        have : 0 < b * val b r := Nat.mul_pos (by omega) h0
        omega
    rw [digs_pos hb hpos]
    have h1 : val b (x :: r) % b = x := by
      simp only [val]; rw [Nat.add_mul_mod_self_left, Nat.mod_eq_of_lt h.head]
    have h2 : val b (x :: r) / b = val b r := by
      simp only [val]; rw [Nat.add_mul_div_left _ _ (by omega), Nat.div_eq_of_lt h.head]; omega
    rw [h1, h2, ← ih]
theorem digs_last {b : Nat} (hb : 2 ≤ b) : ∀ (n : Nat) (v : Nat), (digs b n).getLast? = some v → v ≠ 0 := by
  intro n
  induction n using Nat.strongRecOn with
  | _ n ih =>
    intro v hv
    rcases Nat.eq_zero_or_pos n with rfl | hn
    · rw [digs_zero] at hv; cases hv
    · rw [digs_pos hb hn] at hv
      rcases Nat.eq_zero_or_pos (n / b) with h0 | h0
      · rw [h0, digs_zero] at hv
        simp at hv; subst hv
        have : n < b := by
          rcases Nat.lt_or_ge n b with h | h
          · exact h
          · have := Nat.div_pos h (by omega); omega
        rw [Nat.mod_eq_of_lt this]; omega
      · rw [digs_pos hb h0, List.getLast?_cons_cons] at hv
        exact ih (n / b) (Nat.div_lt_self hn (by omega)) v (by rw [digs_pos hb h0]; exact hv)
theorem take_last {n : Nat} {xs : List Nat} (h : n ≤ xs.length) (hv : n = 0 ∨ ∃ v, xs[n - 1]? = some v ∧ v ≠ 0) : ∀ v, (xs.take n).getLast? = some v → v ≠ 0 := by
  intro v h'
  rcases hv with rfl | ⟨u, hu, h0⟩
  · simp at h'
  · rw [List.getLast?_take] at h'
    split at h'
    · cases h'
    · rw [hu] at h'
      simp at h'
      subst h'; exact h0
theorem take_digs {b n : Nat} (hb : 2 ≤ b) {xs : List Nat} (hd : Dg b xs) (h : n ≤ xs.length) (h0 : ∀ x ∈ xs.drop n, x = 0) (hv : n = 0 ∨ ∃ v, xs[n - 1]? = some v ∧ v ≠ 0) : xs.take n = digs b (val b xs) := by
  rw [eq_digs hb (hd.take n) (take_last h hv), val_take h0]
theorem digs_ge {b : Nat} (hb : 2 ≤ b) {n : Nat} (hn : 0 < n) : b ^ ((digs b n).length - 1) ≤ n := by
  induction n using Nat.strongRecOn with
  | _ n ih =>
    rw [digs_pos hb hn, List.length_cons, Nat.add_sub_cancel]
    rcases Nat.eq_zero_or_pos (n / b) with h0 | h0
    · rw [h0, digs_zero]; simp; omega
    · have := ih (n / b) (Nat.div_lt_self hn (by omega)) h0
      have hl : 0 < (digs b (n / b)).length := by
        rcases Nat.eq_zero_or_pos (digs b (n / b)).length with h | h
        · rw [digs_len0 hb] at h; omega
        · exact h
      have e : (digs b (n / b)).length = (digs b (n / b)).length - 1 + 1 := by omega
      rw [e, Nat.pow_succ]
      exact Nat.le_trans (Nat.mul_le_mul_right b this) (Nat.div_mul_le_self n b)
theorem digs_lt_len {b : Nat} (hb : 2 ≤ b) {m n : Nat} (h : (digs b m).length < (digs b n).length) : m < n := by
  have h1 : m < b ^ (digs b m).length := by
    have := val_lt (digs_Dg hb m); rwa [val_digs hb] at this
  have hn : 0 < n := by
    rcases Nat.eq_zero_or_pos n with rfl | hn
    · rw [digs_zero] at h; simp at h
    · exact hn
  have h2 := digs_ge hb hn
  exact Nat.lt_of_lt_of_le h1 (Nat.le_trans (Nat.pow_le_pow_right (by omega) (by omega)) h2)
theorem digs_inj {b : Nat} (hb : 2 ≤ b) {m n : Nat} (h : digs b m = digs b n) : m = n := by
  rw [← val_digs hb m, h, val_digs hb]
theorem digs_len_mono {b : Nat} (hb : 2 ≤ b) {m n : Nat} (h : m ≤ n) : (digs b m).length ≤ (digs b n).length := by
  rcases Nat.lt_or_ge (digs b n).length (digs b m).length with h' | h'
  · have := digs_lt_len hb h'; omega
  · exact h'
theorem digs_len_bits {w n k : Nat} (hw : 1 ≤ w) (h : n < 2 ^ k) : (digs (2 ^ w) n).length ≤ k := by
  have hb : 2 ≤ 2 ^ w := Nat.le_trans (by simp) (Nat.pow_le_pow_right (by omega) hw)
  exact digs_len hb k n (Nat.lt_of_lt_of_le h (by rw [← Nat.pow_mul]; exact Nat.pow_le_pow_right (by omega) (Nat.le_mul_of_pos_left _ (by omega))))
theorem at0_lt {b : Nat} {xs : List Nat} (h : Dg b xs) (hb : 0 < b) (i : Nat) : at0 xs i < b := by
  unfold at0
  cases hv : xs[i]? with
  | none => simpa using hb
  | some v => exact h.get hv
theorem val_split {b m : Nat} {xs : List Nat} (h : m < xs.length) : val b xs = val b (xs.take m) + b ^ m * (at0 xs m + b * val b (xs.drop (m + 1))) := by
  conv => lhs; rw [← List.take_append_drop m xs, val_append, List.length_take, Nat.min_eq_left (Nat.le_of_lt h)]
  rw [List.drop_eq_getElem_cons h, val]
  simp [at0, h]
theorem val_take_succ0 {b i : Nat} {xs : List Nat} (h : i < xs.length) : val b (xs.take (i + 1)) = val b (xs.take i) + b ^ i * at0 xs i := val_take_succ (get0 h)
theorem val_take_le {b : Nat} (i : Nat) (xs : List Nat) : val b (xs.take (i + 1)) = val b (xs.take i) + b ^ i * at0 xs i := by
  rcases Nat.lt_or_ge i xs.length with h | h
  · exact val_take_succ0 h
  · rw [at0_out h, val_take_all h, val_take_all (by omega)]; simp
theorem val_lt_at {b m : Nat} (hb : 0 < b) {xs ys : List Nat} (hx : Dg b xs) (hm : m < xs.length) (hm' : m < ys.length) (hd : xs.drop (m + 1) = ys.drop (m + 1)) (h : at0 xs m < at0 ys m) : val b xs < val b ys := by
  rw [val_split hm, val_split hm', hd]
  have h1 := val_lt (hx.take m)
  rw [List.length_take, Nat.min_eq_left (Nat.le_of_lt hm)] at h1
  have h2 : b ^ m * (at0 xs m + 1 + b * val b (ys.drop (m + 1))) ≤ b ^ m * (at0 ys m + b * val b (ys.drop (m + 1))) := Nat.mul_le_mul_left _ (by omega)
  have h3 : b ^ m * (at0 xs m + 1 + b * val b (ys.drop (m + 1))) = b ^ m * (at0 xs m + b * val b (ys.drop (m + 1))) + b ^ m := by
    rw [← Nat.mul_succ]; congr 1; omega
  omega
theorem set_zeros {n : Nat} (done : List Nat) (v : Nat) (h : done.length < n) : (done ++ List.replicate (n - done.length) 0).set done.length v = (done ++ [v]) ++ List.replicate (n - (done ++ [v]).length) 0 := by
  rw [List.set_append_right _ _ (Nat.le_refl _), Nat.sub_self]
  have : n - done.length = (n - (done ++ [v]).length) + 1 := by simp; omega
  rw [this, List.replicate_succ, List.set_cons_zero]
  simp
theorem at0_set {xs : List Nat} {i v : Nat} (h : i < xs.length) (j : Nat) : at0 (xs.set i v) j = if i = j then v else at0 xs j := by
  unfold at0
  rw [List.getElem?_set]
  by_cases hj : i = j
  · subst hj; simp [h]
  · simp [hj]
theorem val_set {b i v : Nat} : ∀ {xs : List Nat}, i < xs.length → val b (xs.set i v) + b ^ i * at0 xs i = val b xs + b ^ i * v
  | [], h => by simp at h
  | x :: r, h => by
    cases i with
    | zero => simp [val, at0]; omega
    | succ i =>
      have ih := val_set (b := b) (i := i) (v := v) (xs := r) (by simpa using h)
      have e : at0 (x :: r) (i + 1) = at0 r i := by simp [at0]
      simp only [List.set_cons_succ, val, e, Nat.pow_succ]
      have h1 : b ^ i * b * at0 r i = b * (b ^ i * at0 r i) := by rw [Nat.mul_comm (b ^ i) b, Nat.mul_assoc]
      have h2 : b ^ i * b * v = b * (b ^ i * v) := by rw [Nat.mul_comm (b ^ i) b, Nat.mul_assoc]
      rw [h1, h2]
      have h3 := congrArg (b * ·) ih
      simp only [Nat.mul_add] at h3
      omega
theorem at0_zeros (n i : Nat) : at0 (List.replicate n 0) i = 0 := by
  unfold at0
  rw [List.getElem?_replicate]
  split <;> rfl
def cut16 (xs : List Nat) : List Nat := xs.flatMap fun l => [l % 65536, l / 65536]
theorem cut16_val : ∀ (xs : List Nat), val 65536 (cut16 xs) = val 4294967296 xs
  | [] => rfl
  | x :: r => by
    simp only [cut16, List.flatMap_cons, List.cons_append, List.nil_append, val]
    have ih := cut16_val r
    simp only [cut16] at ih
    rw [ih]; omega
theorem cut16_Dg : ∀ {xs : List Nat}, Dg 4294967296 xs → Dg 65536 (cut16 xs)
  | [], _ => .nil
  | x :: r, h => by
    have := h.head
    exact .cons (Nat.mod_lt _ (by omega)) (.cons (by omega) (cut16_Dg h.tail))
theorem cut16_len (xs : List Nat) : (cut16 xs).length = 2 * xs.length := by
  induction xs with
  | nil => rfl
  | cons x r ih => simp only [cut16, List.flatMap_cons, List.length_append, List.length_cons, List.length_nil] at ih ⊢; omega
theorem cut16_snoc (xs : List Nat) (v : Nat) : cut16 (xs ++ [v]) = cut16 xs ++ [v % 65536, v / 65536] := by simp [cut16]
theorem take_snoc {xs : List Nat} {i : Nat} (h : i < xs.length) : xs.take (i + 1) = xs.take i ++ [at0 xs i] := by
  rw [List.take_add_one, get0 h]; rfl
def join16 : List Nat → List Nat
  | [] => []
  | [a] => [a]
  | a :: b :: r => (a + b * 65536) :: join16 r
theorem join16_digs : ∀ (n : Nat), join16 (digs 65536 n) = digs 4294967296 n := by
  intro n
  induction n using Nat.strongRecOn with
  | _ n ih =>
    rcases Nat.eq_zero_or_pos n with rfl | hn
    · simp [digs_zero, join16]
    · rw [digs_pos (by omega) hn, digs_pos (b := 4294967296) (by omega) hn]
      rcases Nat.eq_zero_or_pos (n / 65536) with h0 | h0
      · have h1 : n / 4294967296 = 0 := by omega
        have h2 : n % 65536 = n % 4294967296 := by omega
        rw [h0, h1, digs_zero, digs_zero, join16, h2]
      · rw [digs_pos (by omega) h0, join16, Nat.div_div_eq_div_mul, ih _ (Nat.div_lt_self hn (by omega))]
        congr 1
        omega
theorem join16_app : ∀ (k : Nat) (a r : List Nat), a.length = 2 * k → join16 (a ++ r) = join16 a ++ join16 r
  | 0, a, r, h => by
    have : a = [] := List.eq_nil_of_length_eq_zero (by omega)
    subst this; rfl
  | k + 1, a, r, h => by
    match a, h with
    | x :: y :: a, h =>
      simp only [List.cons_append, join16, join16_app k a r (by simp at h; omega)]
theorem join16_len : ∀ (k : Nat) (a : List Nat), a.length = 2 * k ∨ a.length + 1 = 2 * k → (join16 a).length = k
  | 0, a, h => by
    have : a = [] := List.eq_nil_of_length_eq_zero (by omega)
    subst this; rfl
  | k + 1, a, h => by
    match a, h with
    | [], h => simp at h; omega
    | [x], h =>
      have : k = 0 := by simp at h; omega
      subst this; rfl
    | x :: y :: a, h =>
      simp only [join16, List.length_cons, join16_len k a (by simp at h; omega)]
theorem take_two {xs : List Nat} {i : Nat} (h : i + 1 < xs.length) : xs.take (i + 2) = xs.take i ++ [at0 xs i, at0 xs (i + 1)] := by
  rw [take_snoc h, take_snoc (by omega)]; simp
end Go.Ab
namespace Go.Proofs.YtklelbidjcealaaGreat
open Go Go.Ab
abbrev B32 : Nat := 4294967296
abbrev Small (n : Nat) : Prop := n ≤ 1000000000000
theorem trim_ok (t : Tag) {xs : List Nat} (hd : Dg B32 xs) (hl : Small xs.length) : ret tab.get an 165 [.sl t (u32s xs)] = some (.sl .any (u32s (digs B32 (val B32 xs)))) := by
  refine ret_eq (fn := i165) rfl rfl ?_
  simp -dsimp only [i165]
  simp -dsimp (disch := first | omega | assumption | apply agg_two | apply agg_nInt | apply agg_rInt | (simp only [J1,J2,J3,J4,J5,J6,J7,J8]; omega)) only [i165, go_sem,↓reduceIte,reduceCtorEq,Nat.reduceEqDiff,Nat.reduceAdd,Nat.reduceSub,Nat.reduceMul,Nat.reduceLT,Nat.reduceLeDiff,Nat.reduceBEq,Nat.reduceBNe,Int.reduceLT,Int.reduceLE,Int.reduceEq,Int.reduceNeg,Int.reduceAdd,Int.reduceSub,Int.reduceMul,Int.reduceToNat,Int.reducePow,Nat.reducePow]
  refine pW_loop (fun n : Nat => ⟨[(0, .fv (.sl t (u32s xs))), (3, .fv (.int .i64 n))], [], []⟩) (fun n => n ≤ xs.length ∧ ∀ x ∈ xs.drop n, x = 0) id xs.length (by simp -dsimp (disch := first | omega | assumption | apply agg_two | apply agg_nInt | apply agg_rInt | (simp only [J1,J2,J3,J4,J5,J6,J7,J8]; omega)) only [go_sem,↓reduceIte,reduceCtorEq,Nat.reduceEqDiff,Nat.reduceAdd,Nat.reduceSub,Nat.reduceMul,Nat.reduceLT,Nat.reduceLeDiff,Nat.reduceBEq,Nat.reduceBNe,Int.reduceLT,Int.reduceLE,Int.reduceEq,Int.reduceNeg,Int.reduceAdd,Int.reduceSub,Int.reduceMul,Int.reduceToNat,Int.reducePow,Nat.reducePow]) (by simp) ?_
  intro n ⟨hn, h0⟩
  have fin : (n = 0 ∨ ∃ v, xs[n - 1]? = some v ∧ v ≠ 0) → (xs.take n) = digs B32 (val B32 xs) := fun h => take_digs (by decide) hd hn h0 h
  rcases Nat.eq_zero_or_pos n with rfl | hp
  · simp -dsimp only [i165b0]
    simp -dsimp (disch := first | omega | assumption | apply agg_two | apply agg_nInt | apply agg_rInt | (simp only [J1,J2,J3,J4,J5,J6,J7,J8]; omega)) only [i165, go_sem,↓reduceIte,reduceCtorEq,Nat.reduceEqDiff,Nat.reduceAdd,Nat.reduceSub,Nat.reduceMul,Nat.reduceLT,Nat.reduceLeDiff,Nat.reduceBEq,Nat.reduceBNe,Int.reduceLT,Int.reduceLE,Int.reduceEq,Int.reduceNeg,Int.reduceAdd,Int.reduceSub,Int.reduceMul,Int.reduceToNat,Int.reducePow,Nat.reducePow]
    rw [← fin (.inl rfl)]; rfl
  · obtain ⟨m, rfl⟩ : ∃ m, n = m + 1 := ⟨n - 1, by omega⟩
    by_cases hv0 : at0 xs m = 0
    · simp -dsimp only [i165b0]
      simp -dsimp (disch := first | omega | assumption | apply agg_two | apply agg_nInt | apply agg_rInt | (simp only [J1,J2,J3,J4,J5,J6,J7,J8]; omega)) only [i165, go_sem,↓reduceIte,reduceCtorEq,Nat.reduceEqDiff,Nat.reduceAdd,Nat.reduceSub,Nat.reduceMul,Nat.reduceLT,Nat.reduceLeDiff,Nat.reduceBEq,Nat.reduceBNe,Int.reduceLT,Int.reduceLE,Int.reduceEq,Int.reduceNeg,Int.reduceAdd,Int.reduceSub,Int.reduceMul,Int.reduceToNat,Int.reducePow,Nat.reducePow]
      refine next ⟨m, rfl, ⟨by omega, fun x hx => ?_⟩, by simp⟩
      rw [List.drop_eq_getElem_cons (by omega)] at hx
      rcases List.mem_cons.1 hx with rfl | hx
      · rw [← hv0]; simp [at0, show m < xs.length by omega]
      · exact h0 x hx
    · simp -dsimp only [i165b0]
      simp -dsimp (disch := first | omega | assumption | apply agg_two | apply agg_nInt | apply agg_rInt | (simp only [J1,J2,J3,J4,J5,J6,J7,J8]; omega)) only [i165, go_sem,↓reduceIte,reduceCtorEq,Nat.reduceEqDiff,Nat.reduceAdd,Nat.reduceSub,Nat.reduceMul,Nat.reduceLT,Nat.reduceLeDiff,Nat.reduceBEq,Nat.reduceBNe,Int.reduceLT,Int.reduceLE,Int.reduceEq,Int.reduceNeg,Int.reduceAdd,Int.reduceSub,Int.reduceMul,Int.reduceToNat,Int.reducePow,Nat.reducePow]
      rw [fin (.inr ⟨at0 xs m, get0 (by omega), hv0⟩)]
theorem mag_ok (b : Bool) (t : Tag) {xs : List Nat} (hd : Dg B32 xs) (hl : Small xs.length) : ret tab.get an 129 [.agg [.bool b, .sl t (u32s xs)]] = some (.sl .any (u32s (digs B32 (val B32 xs)))) := by
  refine ret_eq (fn := i129) rfl rfl ?_
  simp -dsimp only [i129]
  simp -dsimp (disch := first | omega | assumption | apply agg_two | apply agg_nInt | apply agg_rInt | (simp only [J1,J2,J3,J4,J5,J6,J7,J8]; omega)) only [i129, go_sem,↓reduceIte,reduceCtorEq,Nat.reduceEqDiff,Nat.reduceAdd,Nat.reduceSub,Nat.reduceMul,Nat.reduceLT,Nat.reduceLeDiff,Nat.reduceBEq,Nat.reduceBNe,Int.reduceLT,Int.reduceLE,Int.reduceEq,Int.reduceNeg,Int.reduceAdd,Int.reduceSub,Int.reduceMul,Int.reduceToNat,Int.reducePow,Nat.reducePow, trim_ok t hd hl]
def nTag (z : Int) : Tag := if z = 0 then .nil else .any
def nInt (z : Int) : FV := .agg [.bool (decide (z < 0)), .sl (nTag z) (u32s (digs B32 z.natAbs))]
theorem agg_nInt (z : Int) : Agg 2 (nInt z) := agg_two _ _
def sg (b : Bool) (n : Nat) : Int := if b then -(n : Int) else n
theorem nInt_sg (b : Bool) {n : Nat} (h : n ≠ 0) : nInt (sg b n) = .agg [.bool b, .sl .any (u32s (digs B32 n))] := by
  have h1 : sg b n ≠ 0 := by cases b <;> simp [sg] <;> omega
  have h2 : decide (sg b n < 0) = b := by cases b <;> simp [sg] <;> omega
  have h3 : (sg b n).natAbs = n := by cases b <;> simp [sg]
  simp [nInt, nTag, h1, h2, h3]
theorem made_ok (b : Bool) (t : Tag) {xs : List Nat} (hd : Dg B32 xs) (hl : Small xs.length) : ret tab.get an 134 [.bool b, .sl t (u32s xs)] = some (nInt (sg b (val B32 xs))) := by
  refine ret_eq (fn := i134) rfl rfl ?_
  simp -dsimp only [i134]
  by_cases h0 : val B32 xs = 0
  · have : digs B32 (val B32 xs) = [] := by rw [h0, digs_zero]
    simp -dsimp (disch := first | omega | assumption | apply agg_two | apply agg_nInt | apply agg_rInt | (simp only [J1,J2,J3,J4,J5,J6,J7,J8]; omega)) only [i134, go_sem,↓reduceIte,reduceCtorEq,Nat.reduceEqDiff,Nat.reduceAdd,Nat.reduceSub,Nat.reduceMul,Nat.reduceLT,Nat.reduceLeDiff,Nat.reduceBEq,Nat.reduceBNe,Int.reduceLT,Int.reduceLE,Int.reduceEq,Int.reduceNeg,Int.reduceAdd,Int.reduceSub,Int.reduceMul,Int.reduceToNat,Int.reducePow,Nat.reducePow, trim_ok t hd hl, this]
    simp [nInt, nTag, sg, h0, digs_zero]
  · have h1 : digs B32 (val B32 xs) ≠ [] := by rw [Ne, digs_nil (by decide)]; exact h0
    have := List.length_pos_iff.2 h1
    have hl' := digs_len (b := B32) (by decide) _ _ (val_lt hd)
    simp -dsimp (disch := first | omega | assumption | apply agg_two | apply agg_nInt | apply agg_rInt | (simp only [J1,J2,J3,J4,J5,J6,J7,J8]; omega)) only [i134, go_sem,↓reduceIte,reduceCtorEq,Nat.reduceEqDiff,Nat.reduceAdd,Nat.reduceSub,Nat.reduceMul,Nat.reduceLT,Nat.reduceLeDiff,Nat.reduceBEq,Nat.reduceBNe,Int.reduceLT,Int.reduceLE,Int.reduceEq,Int.reduceNeg,Int.reduceAdd,Int.reduceSub,Int.reduceMul,Int.reduceToNat,Int.reducePow,Nat.reducePow, trim_ok t hd hl, h1]
    rw [nInt_sg b h0]
def IsI (x : FV) (z : Int) : Prop := ∃ b t xs, x = .agg [.bool b, .sl t (u32s xs)] ∧ Dg B32 xs ∧ Small xs.length ∧ z = sg b (val B32 xs)
theorem sg_abs (b : Bool) (n : Nat) : (sg b n).natAbs = n := by cases b <;> simp [sg]
theorem sg_zero (b : Bool) (n : Nat) : sg b n = 0 ↔ n = 0 := by cases b <;> simp [sg]
theorem nInt_isI {z : Int} {k : Nat} (h : z.natAbs < 2 ^ k) (hk : Small k) : IsI (nInt z) z := by
  refine ⟨decide (z < 0), nTag z, digs B32 z.natAbs, rfl, digs_Dg (by decide) _, ?_, ?_⟩
  · exact Nat.le_trans (digs_len_bits (w := 32) (by decide) h) hk
  · rw [val_digs (by decide)]
    by_cases hz : z < 0 <;> simp [sg, hz] <;> omega
theorem sg_not (z : Int) : sg (!decide (z < 0)) z.natAbs = -z := by
  by_cases h0 : z < 0 <;> simp [sg, h0] <;> omega
theorem neg_ok {b : Bool} {t : Tag} {xs : List Nat} (hd : Dg B32 xs) (hl : Small xs.length) : ret tab.get an 174 [.agg [.bool b, .sl t (u32s xs)]] = some (.bool (decide (sg b (val B32 xs) < 0))) := by
  refine ret_eq (fn := i174) rfl rfl ?_
  simp -dsimp only [i174]
  have hl' := digs_len (b := B32) (by decide) _ _ (val_lt hd)
  have hz := digs_len0 (b := B32) (n := val B32 xs) (by decide)
  cases b
  · simp -dsimp (disch := first | omega | assumption | apply agg_two | apply agg_nInt | apply agg_rInt | (simp only [J1,J2,J3,J4,J5,J6,J7,J8]; omega)) only [i174, go_sem,↓reduceIte,reduceCtorEq,Nat.reduceEqDiff,Nat.reduceAdd,Nat.reduceSub,Nat.reduceMul,Nat.reduceLT,Nat.reduceLeDiff,Nat.reduceBEq,Nat.reduceBNe,Int.reduceLT,Int.reduceLE,Int.reduceEq,Int.reduceNeg,Int.reduceAdd,Int.reduceSub,Int.reduceMul,Int.reduceToNat,Int.reducePow,Nat.reducePow, mag_ok false t hd hl]
    have : ¬ sg false (val B32 xs) < 0 := by simp [sg]
    simp [this]
  · by_cases h0 : val B32 xs = 0
    · simp -dsimp (disch := first | omega | assumption | apply agg_two | apply agg_nInt | apply agg_rInt | (simp only [J1,J2,J3,J4,J5,J6,J7,J8]; omega)) only [i174, go_sem,↓reduceIte,reduceCtorEq,Nat.reduceEqDiff,Nat.reduceAdd,Nat.reduceSub,Nat.reduceMul,Nat.reduceLT,Nat.reduceLeDiff,Nat.reduceBEq,Nat.reduceBNe,Int.reduceLT,Int.reduceLE,Int.reduceEq,Int.reduceNeg,Int.reduceAdd,Int.reduceSub,Int.reduceMul,Int.reduceToNat,Int.reducePow,Nat.reducePow, mag_ok true t hd hl]
      simp [sg, h0]
    · simp -dsimp (disch := first | omega | assumption | apply agg_two | apply agg_nInt | apply agg_rInt | (simp only [J1,J2,J3,J4,J5,J6,J7,J8]; omega)) only [i174, go_sem,↓reduceIte,reduceCtorEq,Nat.reduceEqDiff,Nat.reduceAdd,Nat.reduceSub,Nat.reduceMul,Nat.reduceLT,Nat.reduceLeDiff,Nat.reduceBEq,Nat.reduceBNe,Int.reduceLT,Int.reduceLE,Int.reduceEq,Int.reduceNeg,Int.reduceAdd,Int.reduceSub,Int.reduceMul,Int.reduceToNat,Int.reducePow,Nat.reducePow, mag_ok true t hd hl]
      have : sg true (val B32 xs) < 0 := by simp [sg]; omega
      simp [this]
theorem neg'_ok {x : FV} {z : Int} (h : IsI x z) : ret tab.get an 174 [x] = some (.bool (decide (z < 0))) := by
  obtain ⟨b, t, xs, rfl, hd, hl, rfl⟩ := h
  exact neg_ok hd hl
theorem mag'_ok {x : FV} {z : Int} (h : IsI x z) : ret tab.get an 129 [x] = some (.sl .any (u32s (digs B32 z.natAbs))) := by
  obtain ⟨b, t, xs, rfl, hd, hl, rfl⟩ := h
  rw [mag_ok b t hd hl, sg_abs]
theorem digs_small {z : Int} {x : FV} (h : IsI x z) : Small (digs B32 z.natAbs).length := by
  obtain ⟨b, t, xs, rfl, hd, hl, rfl⟩ := h
  rw [sg_abs]
  exact Nat.le_trans (digs_len (b := B32) (by decide) _ _ (val_lt hd)) hl
theorem IsI.cells {x : FV} {z : Int} (h : IsI x z) : x.cells.length = 2 := by
  obtain ⟨b, t, xs, rfl, hd, hl, rfl⟩ := h; rfl
theorem IsI.okPart {x : FV} {z : Int} (h : IsI x z) : okPart x = true := by
  obtain ⟨b, t, xs, rfl, hd, hl, rfl⟩ := h; rfl
theorem Neg_ok {x : FV} {z : Int} (h : IsI x z) : ret tab.get an 157 [x] = some (nInt (-z)) := by
  have h1 := neg'_ok h
  have h2 := mag'_ok h
  have h3 := made_ok (!decide (z < 0)) .any (digs_Dg (b := B32) (by decide) z.natAbs) (digs_small h)
  obtain ⟨b, t, xs, rfl, hd, hl, hz⟩ := h
  have h4 := agg_nInt (sg (!decide (z < 0)) (val B32 (digs B32 z.natAbs)))
  refine ret_eq (fn := i157) rfl rfl ?_
  simp -dsimp only [i157]
  simp -dsimp (disch := first | omega | assumption | apply agg_two | apply agg_nInt | apply agg_rInt | (simp only [J1,J2,J3,J4,J5,J6,J7,J8]; omega)) only [i157, ↓i157d0t, i157d0, go_sem,↓reduceIte,reduceCtorEq,Nat.reduceEqDiff,Nat.reduceAdd,Nat.reduceSub,Nat.reduceMul,Nat.reduceLT,Nat.reduceLeDiff,Nat.reduceBEq,Nat.reduceBNe,Int.reduceLT,Int.reduceLE,Int.reduceEq,Int.reduceNeg,Int.reduceAdd,Int.reduceSub,Int.reduceMul,Int.reduceToNat,Int.reducePow,Nat.reducePow, h1, h2, h3]
  rw [val_digs (by decide)]
  rw [sg_not]
theorem Sign_ok {x : FV} {z : Int} (h : IsI x z) : ret tab.get an 84 [x] = some (.int .i64 z.sign) := by
  have h1 := mag'_ok h
  have hz := digs_len0 (b := B32) (n := z.natAbs) (by decide)
  have hs := digs_small h
  obtain ⟨b, t, xs, rfl, hd, hl, hz'⟩ := h
  refine ret_eq (fn := i84) rfl rfl ?_
  simp -dsimp only [i84]
  by_cases h0 : z = 0
  · have : (digs B32 z.natAbs).length = 0 := by rw [hz]; omega
    simp -dsimp (disch := first | omega | assumption | apply agg_two | apply agg_nInt | apply agg_rInt | (simp only [J1,J2,J3,J4,J5,J6,J7,J8]; omega)) only [i84, go_sem,↓reduceIte,reduceCtorEq,Nat.reduceEqDiff,Nat.reduceAdd,Nat.reduceSub,Nat.reduceMul,Nat.reduceLT,Nat.reduceLeDiff,Nat.reduceBEq,Nat.reduceBNe,Int.reduceLT,Int.reduceLE,Int.reduceEq,Int.reduceNeg,Int.reduceAdd,Int.reduceSub,Int.reduceMul,Int.reduceToNat,Int.reducePow,Nat.reducePow, h1, this]
    rw [h0]; rfl
  · have : ¬ (digs B32 z.natAbs).length = 0 := by rw [hz]; omega
    have h2 : b = decide (z < 0) := by
      rw [hz'] at h0 ⊢
      cases b <;> simp [sg] at h0 ⊢ <;> omega
    cases b
    · have : z.sign = 1 := Int.sign_eq_one_of_pos (by simp at h2; omega)
      simp -dsimp (disch := first | omega | assumption | apply agg_two | apply agg_nInt | apply agg_rInt | (simp only [J1,J2,J3,J4,J5,J6,J7,J8]; omega)) only [i84, go_sem,↓reduceIte,reduceCtorEq,Nat.reduceEqDiff,Nat.reduceAdd,Nat.reduceSub,Nat.reduceMul,Nat.reduceLT,Nat.reduceLeDiff,Nat.reduceBEq,Nat.reduceBNe,Int.reduceLT,Int.reduceLE,Int.reduceEq,Int.reduceNeg,Int.reduceAdd,Int.reduceSub,Int.reduceMul,Int.reduceToNat,Int.reducePow,Nat.reducePow, h1, this]
    · have : z.sign = -1 := Int.sign_eq_neg_one_of_neg (by simpa using h2)
      simp -dsimp (disch := first | omega | assumption | apply agg_two | apply agg_nInt | apply agg_rInt | (simp only [J1,J2,J3,J4,J5,J6,J7,J8]; omega)) only [i84, go_sem,↓reduceIte,reduceCtorEq,Nat.reduceEqDiff,Nat.reduceAdd,Nat.reduceSub,Nat.reduceMul,Nat.reduceLT,Nat.reduceLeDiff,Nat.reduceBEq,Nat.reduceBNe,Int.reduceLT,Int.reduceLE,Int.reduceEq,Int.reduceNeg,Int.reduceAdd,Int.reduceSub,Int.reduceMul,Int.reduceToNat,Int.reducePow,Nat.reducePow, h1, this]
theorem Of_ok {n : Int} (h1 : -9223372036854775808 ≤ n) (h2 : n ≤ 9223372036854775807) : ret tab.get an 87 [.int .i64 n] = some (nInt n) := by
  refine ret_eq (fn := i87) rfl rfl ?_
  simp -dsimp only [i87]
  have hm : ∀ (m : Nat) (neg : Bool), m < 18446744073709551616 → ret tab.get an 134 [.bool neg, .sl .full [.int .u32 ((m % 4294967296 : Nat) : Int), .int .u32 ((m / 4294967296 : Nat) : Int)]] = some (nInt (sg neg m)) := by
    intro m neg hm
    have := made_ok neg .full (xs := [m % 4294967296, m / 4294967296]) (Dg.cons (Nat.mod_lt _ (by decide)) (Dg.cons (by show m / 4294967296 < 4294967296; omega) Dg.nil)) (by simp)
    rw [show val B32 [m % 4294967296, m / 4294967296] = m by show m % 4294967296 + 4294967296 * (m / 4294967296 + 4294967296 * 0) = m; omega] at this
    exact this
  by_cases h0 : n < 0
  · obtain ⟨m, hm0⟩ : ∃ m : Nat, n = -(m : Int) := ⟨n.natAbs, by omega⟩
    have e1 : IntKind.u64.wrap (0 - IntKind.u64.wrap n) = (m : Int) := by
      rw [IntKind.wrap_u64, IntKind.wrap_u64]; omega
    have e2 := hm m true (by omega)
    have e3 := agg_nInt (sg true m)
    simp -dsimp (disch := first | omega | assumption | apply agg_two | apply agg_nInt | apply agg_rInt | (simp only [J1,J2,J3,J4,J5,J6,J7,J8]; omega)) only [i87, go_sem,↓reduceIte,reduceCtorEq,Nat.reduceEqDiff,Nat.reduceAdd,Nat.reduceSub,Nat.reduceMul,Nat.reduceLT,Nat.reduceLeDiff,Nat.reduceBEq,Nat.reduceBNe,Int.reduceLT,Int.reduceLE,Int.reduceEq,Int.reduceNeg,Int.reduceAdd,Int.reduceSub,Int.reduceMul,Int.reduceToNat,Int.reducePow,Nat.reducePow, e1, e2]
    rw [hm0]; rfl
  · obtain ⟨m, rfl⟩ : ∃ m : Nat, n = m := ⟨n.toNat, by omega⟩
    have e2 := hm m false (by omega)
    have e3 := agg_nInt (sg false m)
    simp -dsimp (disch := first | omega | assumption | apply agg_two | apply agg_nInt | apply agg_rInt | (simp only [J1,J2,J3,J4,J5,J6,J7,J8]; omega)) only [i87, go_sem,↓reduceIte,reduceCtorEq,Nat.reduceEqDiff,Nat.reduceAdd,Nat.reduceSub,Nat.reduceMul,Nat.reduceLT,Nat.reduceLeDiff,Nat.reduceBEq,Nat.reduceBNe,Int.reduceLT,Int.reduceLE,Int.reduceEq,Int.reduceNeg,Int.reduceAdd,Int.reduceSub,Int.reduceMul,Int.reduceToNat,Int.reducePow,Nat.reducePow, e2]
    rfl
end Go.Proofs.YtklelbidjcealaaGreat
namespace Go.Proofs.YtklelbidjcealaaGreat
open Go Go.Ab
def c3 (a b : Int) : Int := if a < b then -1 else if b < a then 1 else 0
theorem c3_range (a b : Int) : -1 ≤ c3 a b ∧ c3 a b ≤ 1 := by
  unfold c3; split
  · omega
  · split <;> omega
theorem cmp_ok (t t' : Tag) {m n : Nat} (hm : Small (digs B32 m).length) (hn : Small (digs B32 n).length) : ret tab.get an 176 [.sl t (u32s (digs B32 m)), .sl t' (u32s (digs B32 n))] = some (.int .i64 (c3 m n)) := by
  refine ret_eq (fn := i176) rfl rfl ?_
  simp -dsimp only [i176]
  generalize hxs : digs B32 m = xs
  generalize hys : digs B32 n = ys
  rw [hxs] at hm
  rw [hys] at hn
  have hx : Dg B32 xs := by rw [← hxs]; exact digs_Dg (by decide) _
  have hy : Dg B32 ys := by rw [← hys]; exact digs_Dg (by decide) _
  have vx : val B32 xs = m := by rw [← hxs, val_digs (by decide)]
  have vy : val B32 ys = n := by rw [← hys, val_digs (by decide)]
  have less : m < n → c3 m n = -1 := fun h => by simp [c3]; omega
  have more : n < m → c3 m n = 1 := fun h => by simp [c3]; omega
  rcases Nat.lt_trichotomy xs.length ys.length with h | h | h
  · have : c3 m n = -1 := less (digs_lt_len (b := B32) (by decide) (by rw [hxs, hys]; exact h))
    simp -dsimp (disch := first | omega | assumption | apply agg_two | apply agg_nInt | apply agg_rInt | (simp only [J1,J2,J3,J4,J5,J6,J7,J8]; omega)) only [i176, ↓i176d0t, i176d0, ↓i176d1t, i176d1, go_sem,↓reduceIte,reduceCtorEq,Nat.reduceEqDiff,Nat.reduceAdd,Nat.reduceSub,Nat.reduceMul,Nat.reduceLT,Nat.reduceLeDiff,Nat.reduceBEq,Nat.reduceBNe,Int.reduceLT,Int.reduceLE,Int.reduceEq,Int.reduceNeg,Int.reduceAdd,Int.reduceSub,Int.reduceMul,Int.reduceToNat,Int.reducePow,Nat.reducePow, this]
  · simp -dsimp (disch := first | omega | assumption | apply agg_two | apply agg_nInt | apply agg_rInt | (simp only [J1,J2,J3,J4,J5,J6,J7,J8]; omega)) only [i176, ↓i176d0t, i176d0, ↓i176d1t, i176d1, go_sem,↓reduceIte,reduceCtorEq,Nat.reduceEqDiff,Nat.reduceAdd,Nat.reduceSub,Nat.reduceMul,Nat.reduceLT,Nat.reduceLeDiff,Nat.reduceBEq,Nat.reduceBNe,Int.reduceLT,Int.reduceLE,Int.reduceEq,Int.reduceNeg,Int.reduceAdd,Int.reduceSub,Int.reduceMul,Int.reduceToNat,Int.reducePow,Nat.reducePow]
    refine pW_loop (fun k : Nat => ⟨[(0, .fv (.sl t (u32s xs))), (1, .fv (.sl t' (u32s ys))), (5, .fv (.int .i64 ((k : Int) - 1)))], [], []⟩) (fun k => k ≤ xs.length ∧ xs.drop k = ys.drop k) id xs.length (by simp -dsimp (disch := first | omega | assumption | apply agg_two | apply agg_nInt | apply agg_rInt | (simp only [J1,J2,J3,J4,J5,J6,J7,J8]; omega)) only [go_sem,↓reduceIte,reduceCtorEq,Nat.reduceEqDiff,Nat.reduceAdd,Nat.reduceSub,Nat.reduceMul,Nat.reduceLT,Nat.reduceLeDiff,Nat.reduceBEq,Nat.reduceBNe,Int.reduceLT,Int.reduceLE,Int.reduceEq,Int.reduceNeg,Int.reduceAdd,Int.reduceSub,Int.reduceMul,Int.reduceToNat,Int.reducePow,Nat.reducePow]) ⟨Nat.le_refl _, ?_⟩ ?_
    · rw [List.drop_length, h, List.drop_length]
    · intro k ⟨hk, hd⟩
      rcases Nat.eq_zero_or_pos k with rfl | hp
      · have : c3 m n = 0 := by
          have : xs = ys := by simpa using hd
          rw [← vx, ← vy, this]; simp [c3]
        simp -dsimp only [i176b0]
        simp -dsimp (disch := first | omega | assumption | apply agg_two | apply agg_nInt | apply agg_rInt | (simp only [J1,J2,J3,J4,J5,J6,J7,J8]; omega)) only [i176, ↓i176d0t, i176d0, ↓i176d1t, i176d1, go_sem,↓reduceIte,reduceCtorEq,Nat.reduceEqDiff,Nat.reduceAdd,Nat.reduceSub,Nat.reduceMul,Nat.reduceLT,Nat.reduceLeDiff,Nat.reduceBEq,Nat.reduceBNe,Int.reduceLT,Int.reduceLE,Int.reduceEq,Int.reduceNeg,Int.reduceAdd,Int.reduceSub,Int.reduceMul,Int.reduceToNat,Int.reducePow,Nat.reducePow, this]
      · obtain ⟨j, rfl⟩ : ∃ j, k = j + 1 := ⟨k - 1, by omega⟩
        rcases Nat.lt_trichotomy (at0 xs j) (at0 ys j) with h1 | h1 | h1
        · have : c3 m n = -1 := less (by rw [← vx, ← vy]; exact val_lt_at (by decide) hx (by omega) (by omega) hd h1)
          simp -dsimp only [i176b0]
          simp -dsimp (disch := first | omega | assumption | apply agg_two | apply agg_nInt | apply agg_rInt | (simp only [J1,J2,J3,J4,J5,J6,J7,J8]; omega)) only [i176, ↓i176d0t, i176d0, ↓i176d1t, i176d1, go_sem,↓reduceIte,reduceCtorEq,Nat.reduceEqDiff,Nat.reduceAdd,Nat.reduceSub,Nat.reduceMul,Nat.reduceLT,Nat.reduceLeDiff,Nat.reduceBEq,Nat.reduceBNe,Int.reduceLT,Int.reduceLE,Int.reduceEq,Int.reduceNeg,Int.reduceAdd,Int.reduceSub,Int.reduceMul,Int.reduceToNat,Int.reducePow,Nat.reducePow, this]
        · simp -dsimp only [i176b0]
          simp -dsimp (disch := first | omega | assumption | apply agg_two | apply agg_nInt | apply agg_rInt | (simp only [J1,J2,J3,J4,J5,J6,J7,J8]; omega)) only [i176, ↓i176d0t, i176d0, ↓i176d1t, i176d1, go_sem,↓reduceIte,reduceCtorEq,Nat.reduceEqDiff,Nat.reduceAdd,Nat.reduceSub,Nat.reduceMul,Nat.reduceLT,Nat.reduceLeDiff,Nat.reduceBEq,Nat.reduceBNe,Int.reduceLT,Int.reduceLE,Int.reduceEq,Int.reduceNeg,Int.reduceAdd,Int.reduceSub,Int.reduceMul,Int.reduceToNat,Int.reducePow,Nat.reducePow]
          refine next ⟨j, rfl, ⟨by omega, ?_⟩, by simp⟩
          rw [List.drop_eq_getElem_cons (by omega), List.drop_eq_getElem_cons (by omega : j < ys.length), hd]
          have e1 : xs[j] = at0 xs j := by simp [at0, show j < xs.length by omega]
          have e2 : ys[j] = at0 ys j := by simp [at0, show j < ys.length by omega]
          rw [e1, e2, h1]
        · have : c3 m n = 1 := more (by rw [← vx, ← vy]; exact val_lt_at (by decide) hy (by omega) (by omega) hd.symm h1)
          simp -dsimp only [i176b0]
          simp -dsimp (disch := first | omega | assumption | apply agg_two | apply agg_nInt | apply agg_rInt | (simp only [J1,J2,J3,J4,J5,J6,J7,J8]; omega)) only [i176, ↓i176d0t, i176d0, ↓i176d1t, i176d1, go_sem,↓reduceIte,reduceCtorEq,Nat.reduceEqDiff,Nat.reduceAdd,Nat.reduceSub,Nat.reduceMul,Nat.reduceLT,Nat.reduceLeDiff,Nat.reduceBEq,Nat.reduceBNe,Int.reduceLT,Int.reduceLE,Int.reduceEq,Int.reduceNeg,Int.reduceAdd,Int.reduceSub,Int.reduceMul,Int.reduceToNat,Int.reducePow,Nat.reducePow, this]
  · have : c3 m n = 1 := more (digs_lt_len (b := B32) (by decide) (by rw [hxs, hys]; exact h))
    simp -dsimp (disch := first | omega | assumption | apply agg_two | apply agg_nInt | apply agg_rInt | (simp only [J1,J2,J3,J4,J5,J6,J7,J8]; omega)) only [i176, ↓i176d0t, i176d0, ↓i176d1t, i176d1, go_sem,↓reduceIte,reduceCtorEq,Nat.reduceEqDiff,Nat.reduceAdd,Nat.reduceSub,Nat.reduceMul,Nat.reduceLT,Nat.reduceLeDiff,Nat.reduceBEq,Nat.reduceBNe,Int.reduceLT,Int.reduceLE,Int.reduceEq,Int.reduceNeg,Int.reduceAdd,Int.reduceSub,Int.reduceMul,Int.reduceToNat,Int.reducePow,Nat.reducePow, this]
theorem Cmp_ok {x y : FV} {a b : Int} (hx : IsI x a) (hy : IsI y b) : ret tab.get an 147 [x, y] = some (.int .i64 (c3 a b)) := by
  have h1 := Sign_ok hx
  have h2 := Sign_ok hy
  have h3 := mag'_ok hx
  have h4 := mag'_ok hy
  have h5 := cmp_ok .any .any (digs_small hx) (digs_small hy)
  have ax : Agg 2 x := by obtain ⟨b, t, xs, rfl, _⟩ := hx; exact agg_two _ _
  have ay : Agg 2 y := by obtain ⟨b, t, xs, rfl, _⟩ := hy; exact agg_two _ _
  refine ret_eq (fn := i147) rfl rfl ?_
  simp -dsimp only [i147]
  rcases Int.lt_trichotomy a.sign b.sign with h | h | h
  · have : c3 a b = -1 := by
      have : a < b := by
        rcases Int.lt_trichotomy a 0 with ha | ha | ha <;> rcases Int.lt_trichotomy b 0 with hb | hb | hb <;> simp_all [Int.sign_eq_neg_one_of_neg, Int.sign_eq_one_of_pos] <;> omega
      simp [c3, this]
    simp -dsimp (disch := first | omega | assumption | apply agg_two | apply agg_nInt | apply agg_rInt | (simp only [J1,J2,J3,J4,J5,J6,J7,J8]; omega)) only [i147, ↓i147d0t, i147d0, ↓i147d1t, i147d1, go_sem,↓reduceIte,reduceCtorEq,Nat.reduceEqDiff,Nat.reduceAdd,Nat.reduceSub,Nat.reduceMul,Nat.reduceLT,Nat.reduceLeDiff,Nat.reduceBEq,Nat.reduceBNe,Int.reduceLT,Int.reduceLE,Int.reduceEq,Int.reduceNeg,Int.reduceAdd,Int.reduceSub,Int.reduceMul,Int.reduceToNat,Int.reducePow,Nat.reducePow, h1, h2, h3, h4, h5, this]
  · have hr : -1 ≤ a.sign ∧ a.sign ≤ 1 := by
      rcases Int.lt_trichotomy a 0 with ha | ha | ha
      · rw [Int.sign_eq_neg_one_of_neg ha]; omega
      · rw [ha]; decide
      · rw [Int.sign_eq_one_of_pos ha]; omega
    have hc : -1 ≤ c3 a.natAbs b.natAbs ∧ c3 a.natAbs b.natAbs ≤ 1 := c3_range _ _
    have hm : -1 ≤ a.sign * c3 a.natAbs b.natAbs ∧ a.sign * c3 a.natAbs b.natAbs ≤ 1 := by
      have h6 : a.sign = -1 ∨ a.sign = 0 ∨ a.sign = 1 := by omega
      rcases h6 with h6 | h6 | h6 <;> rw [h6] <;> omega
    simp -dsimp (disch := first | omega | assumption | apply agg_two | apply agg_nInt | apply agg_rInt | (simp only [J1,J2,J3,J4,J5,J6,J7,J8]; omega)) only [i147, ↓i147d0t, i147d0, ↓i147d1t, i147d1, go_sem,↓reduceIte,reduceCtorEq,Nat.reduceEqDiff,Nat.reduceAdd,Nat.reduceSub,Nat.reduceMul,Nat.reduceLT,Nat.reduceLeDiff,Nat.reduceBEq,Nat.reduceBNe,Int.reduceLT,Int.reduceLE,Int.reduceEq,Int.reduceNeg,Int.reduceAdd,Int.reduceSub,Int.reduceMul,Int.reduceToNat,Int.reducePow,Nat.reducePow, h1, h2, h3, h4, h5]
    congr 1
    unfold c3
    rcases Int.lt_trichotomy a 0 with ha | ha | ha
    · have hb : b < 0 := by
        rw [Int.sign_eq_neg_one_of_neg ha] at h
        rcases Int.lt_trichotomy b 0 with hb | hb | hb
        · exact hb
        · rw [hb] at h; simp at h
        · rw [Int.sign_eq_one_of_pos hb] at h; omega
      rw [Int.sign_eq_neg_one_of_neg ha]
      by_cases h6 : a < b
      · rw [if_pos h6, if_neg (by omega), if_pos (by omega)]; rfl
      · by_cases h7 : b < a
        · rw [if_neg h6, if_pos h7, if_pos (by omega)]; rfl
        · rw [if_neg h6, if_neg h7, if_neg (by omega), if_neg (by omega)]; rfl
    · have hb : b = 0 := by
        rw [ha] at h; simp at h; exact (Int.sign_eq_zero_iff_zero).1 h.symm
      subst ha; subst hb; simp
    · have hb : 0 < b := by
        rw [Int.sign_eq_one_of_pos ha] at h
        rcases Int.lt_trichotomy b 0 with hb | hb | hb
        · rw [Int.sign_eq_neg_one_of_neg hb] at h; omega
        · rw [hb] at h; simp at h
        · exact hb
      rw [Int.sign_eq_one_of_pos ha]
      by_cases h6 : a < b
      · rw [if_pos h6, if_pos (by omega)]; rfl
      · by_cases h7 : b < a
        · rw [if_neg h6, if_pos h7, if_neg (by omega), if_pos (by omega)]; rfl
        · rw [if_neg h6, if_neg h7, if_neg (by omega), if_neg (by omega)]; rfl
  · have : c3 a b = 1 := by
      have : b < a := by
        rcases Int.lt_trichotomy a 0 with ha | ha | ha <;> rcases Int.lt_trichotomy b 0 with hb | hb | hb <;> simp_all [Int.sign_eq_neg_one_of_neg, Int.sign_eq_one_of_pos] <;> omega
      simp [c3, this]; omega
    simp -dsimp (disch := first | omega | assumption | apply agg_two | apply agg_nInt | apply agg_rInt | (simp only [J1,J2,J3,J4,J5,J6,J7,J8]; omega)) only [i147, ↓i147d0t, i147d0, ↓i147d1t, i147d1, go_sem,↓reduceIte,reduceCtorEq,Nat.reduceEqDiff,Nat.reduceAdd,Nat.reduceSub,Nat.reduceMul,Nat.reduceLT,Nat.reduceLeDiff,Nat.reduceBEq,Nat.reduceBNe,Int.reduceLT,Int.reduceLE,Int.reduceEq,Int.reduceNeg,Int.reduceAdd,Int.reduceSub,Int.reduceMul,Int.reduceToNat,Int.reducePow,Nat.reducePow, h1, h2, h3, h4, h5, this]
theorem plus_loop {Q : IExit → St → Prop} {t t' : Tag} {xs ys : List Nat} (hx : Dg B32 xs) (hy : Dg B32 ys) (hl : ys.length ≤ xs.length) (hs : Small xs.length) {st : St}
    (h0 : gc [0, 1, 5, 6, 20, 21] st = ⟨[(0, .fv (.sl t (u32s xs))), (1, .fv (.sl t' (u32s ys))), (5, .ref (.l 0) 1 0 (xs.length + 1) true), (6, .fv (.int .u64 0)), (20, .fv (.int .i64 (xs.length : Nat))), (21, .fv (.int .i64 0))], [], [.own 1 (u32s (List.replicate (xs.length + 1) 0))]⟩)
    (hQ : ∀ e done cy, e.get 0 = .fv (.sl t (u32s xs)) → e.get 5 = .ref (.l 0) 1 0 (xs.length + 1) true → e.get 6 = .fv (.int .u64 ((cy : Nat) : Int)) → done.length = xs.length → Dg B32 done → cy ≤ 1 →
      val B32 done + B32 ^ xs.length * cy = val B32 xs + val B32 ys → Q (.exit 0) ⟨e, [], [.own 1 (u32s (done ++ [0]))]⟩) :
    pW Q tab.get an 177 (.loop [0, 1, 5, 6, 20, 21] i177b0) st .mk := by
  refine pW_loop (fun a : List Nat × Nat => ⟨[(0, .fv (.sl t (u32s xs))), (1, .fv (.sl t' (u32s ys))), (5, .ref (.l 0) 1 0 (xs.length + 1) true), (6, .fv (.int .u64 (a.2 : Int))), (20, .fv (.int .i64 (xs.length : Int))), (21, .fv (.int .i64 (a.1.length : Int)))], [], [.own 1 (u32s (a.1 ++ List.replicate (xs.length + 1 - a.1.length) 0))]⟩)
    (fun a => a.1.length ≤ xs.length ∧ Dg B32 a.1 ∧ a.2 ≤ 1 ∧ val B32 a.1 + B32 ^ a.1.length * a.2 = val B32 (xs.take a.1.length) + val B32 (ys.take a.1.length)) (fun a => xs.length - a.1.length) ([], 0) (by rw [h0]; simp) (by simp [val, Dg.nil]) ?_
  rintro ⟨done, cy⟩ ⟨h1, h2, h3, h4⟩
  simp only at h1 h2 h3 h4
  by_cases hi : done.length < xs.length
  · have b1 : at0 xs done.length < 4294967296 := at0_lt hx (by decide) done.length
    have b2 : at0 ys done.length < 4294967296 := at0_lt hy (by decide) done.length
    have v1 := val_take_le (b := B32) done.length xs
    have v2 := val_take_le (b := B32) done.length ys
    have stp : ∀ s : Nat, s = cy + at0 xs done.length + at0 ys done.length → nextQ
        (fun st => ∃ a : List Nat × Nat, st = ⟨[(0, .fv (.sl t (u32s xs))), (1, .fv (.sl t' (u32s ys))), (5, .ref (.l 0) 1 0 (xs.length + 1) true), (6, .fv (.int .u64 (a.2 : Int))), (20, .fv (.int .i64 (xs.length : Int))), (21, .fv (.int .i64 (a.1.length : Int)))], [], [.own 1 (u32s (a.1 ++ List.replicate (xs.length + 1 - a.1.length) 0))]⟩ ∧
          (a.1.length ≤ xs.length ∧ Dg B32 a.1 ∧ a.2 ≤ 1 ∧ val B32 a.1 + B32 ^ a.1.length * a.2 = val B32 (xs.take a.1.length) + val B32 (ys.take a.1.length)) ∧ xs.length - a.1.length < xs.length - done.length)
        ⟨[(0, .fv (.sl t (u32s xs))), (1, .fv (.sl t' (u32s ys))), (5, .ref (.l 0) 1 0 (xs.length + 1) true), (6, .fv (.int .u64 ((s / 4294967296 : Nat) : Int))), (20, .fv (.int .i64 (xs.length : Int))), (21, .fv (.int .i64 ((done.length + 1 : Nat) : Int)))], [], [.own 1 (u32s ((done ++ List.replicate (xs.length + 1 - done.length) 0).set done.length (s % 4294967296)))]⟩ .mk := by
      intro s hs'
      rw [set_zeros done _ (by omega)]
      refine next ⟨(done ++ [s % 4294967296], s / 4294967296), by simp, ⟨by simp; omega, h2.append (.cons (Nat.mod_lt _ (by decide)) .nil), ?_, ?_⟩, by simp; omega⟩
      · omega
      · simp only [List.length_append, List.length_cons, List.length_nil, Nat.zero_add, v1, v2, val_snoc]
        have e1 := Nat.mod_add_div s 4294967296
        rw [Nat.pow_succ]
        generalize B32 ^ done.length = p at *
        have e2 : p * (s % 4294967296) + p * B32 * (s / 4294967296) = p * s := by rw [Nat.mul_assoc, ← Nat.mul_add, e1]
        have e3 : p * s = p * cy + p * at0 xs done.length + p * at0 ys done.length := by rw [hs', Nat.mul_add, Nat.mul_add]
        omega
    by_cases hj : done.length < ys.length
    · simp -dsimp only [i177b0]
      simp -dsimp (disch := first | omega | assumption | apply agg_two | apply agg_nInt | apply agg_rInt | (simp only [J1,J2,J3,J4,J5,J6,J7,J8]; omega)) only [i177, go_sem,↓reduceIte,reduceCtorEq,Nat.reduceEqDiff,Nat.reduceAdd,Nat.reduceSub,Nat.reduceMul,Nat.reduceLT,Nat.reduceLeDiff,Nat.reduceBEq,Nat.reduceBNe,Int.reduceLT,Int.reduceLE,Int.reduceEq,Int.reduceNeg,Int.reduceAdd,Int.reduceSub,Int.reduceMul,Int.reduceToNat,Int.reducePow,Nat.reducePow]
      exact stp _ rfl
    · have z2 : at0 ys done.length = 0 := at0_out (by omega)
      simp -dsimp only [i177b0]
      simp -dsimp (disch := first | omega | assumption | apply agg_two | apply agg_nInt | apply agg_rInt | (simp only [J1,J2,J3,J4,J5,J6,J7,J8]; omega)) only [i177, go_sem,↓reduceIte,reduceCtorEq,Nat.reduceEqDiff,Nat.reduceAdd,Nat.reduceSub,Nat.reduceMul,Nat.reduceLT,Nat.reduceLeDiff,Nat.reduceBEq,Nat.reduceBNe,Int.reduceLT,Int.reduceLE,Int.reduceEq,Int.reduceNeg,Int.reduceAdd,Int.reduceSub,Int.reduceMul,Int.reduceToNat,Int.reducePow,Nat.reducePow]
      exact stp _ (by omega)
  · simp -dsimp only [i177b0]
    simp -dsimp (disch := first | omega | assumption | apply agg_two | apply agg_nInt | apply agg_rInt | (simp only [J1,J2,J3,J4,J5,J6,J7,J8]; omega)) only [i177, go_sem,↓reduceIte,reduceCtorEq,Nat.reduceEqDiff,Nat.reduceAdd,Nat.reduceSub,Nat.reduceMul,Nat.reduceLT,Nat.reduceLeDiff,Nat.reduceBEq,Nat.reduceBNe,Int.reduceLT,Int.reduceLE,Int.reduceEq,Int.reduceNeg,Int.reduceAdd,Int.reduceSub,Int.reduceMul,Int.reduceToNat,Int.reducePow,Nat.reducePow]
    have he : done.length = xs.length := by omega
    rw [show xs.length + 1 - done.length = 1 by omega]
    refine hQ _ done cy rfl rfl rfl he h2 h3 ?_
    rw [he, val_take_all (Nat.le_refl _), val_take_all hl] at h4
    exact h4
theorem plus_ok (t t' : Tag) {xs ys : List Nat} (hx : Dg B32 xs) (hy : Dg B32 ys) (hs : xs.length ≤ 999999999999) (hs' : ys.length ≤ 999999999999) : ret tab.get an 177 [.sl t (u32s xs), .sl t' (u32s ys)] = some (.sl .any (u32s (digs B32 (val B32 xs + val B32 ys)))) := by
  have fin : ∀ {xs ys done : List Nat} {cy : Nat}, done.length = xs.length → Dg B32 done → cy ≤ 1 → val B32 done + B32 ^ xs.length * cy = val B32 xs + val B32 ys → xs.length ≤ 999999999999 →
      ret tab.get an 165 [.sl .any (u32s (done ++ [cy]))] = some (.sl .any (u32s (digs B32 (val B32 xs + val B32 ys)))) := by
    intro xs ys done cy h1 h2 h3 h4 h5
    have := trim_ok .any (xs := done ++ [cy]) (h2.append (.cons (by show cy < 4294967296; omega) .nil)) (by simp; omega)
    rw [val_snoc, h1, h4] at this
    exact this
  refine ret_eq (fn := i177) rfl rfl ?_
  simp -dsimp only [i177]
  rcases Nat.lt_or_ge xs.length ys.length with h | h
  · simp -dsimp (disch := first | omega | assumption | apply agg_two | apply agg_nInt | apply agg_rInt | (simp only [J1,J2,J3,J4,J5,J6,J7,J8]; omega)) only [i177, go_sem,↓reduceIte,reduceCtorEq,Nat.reduceEqDiff,Nat.reduceAdd,Nat.reduceSub,Nat.reduceMul,Nat.reduceLT,Nat.reduceLeDiff,Nat.reduceBEq,Nat.reduceBNe,Int.reduceLT,Int.reduceLE,Int.reduceEq,Int.reduceNeg,Int.reduceAdd,Int.reduceSub,Int.reduceMul,Int.reduceToNat,Int.reducePow,Nat.reducePow]
    refine plus_loop (t := t') (t' := t) hy hx (by omega) (by omega) (by simp -dsimp (disch := first | omega | assumption | apply agg_two | apply agg_nInt | apply agg_rInt | (simp only [J1,J2,J3,J4,J5,J6,J7,J8]; omega)) only [go_sem,↓reduceIte,reduceCtorEq,Nat.reduceEqDiff,Nat.reduceAdd,Nat.reduceSub,Nat.reduceMul,Nat.reduceLT,Nat.reduceLeDiff,Nat.reduceBEq,Nat.reduceBNe,Int.reduceLT,Int.reduceLE,Int.reduceEq,Int.reduceNeg,Int.reduceAdd,Int.reduceSub,Int.reduceMul,Int.reduceToNat,Int.reducePow,Nat.reducePow]) ?_
    intro e done cy g0 g5 g6 h1 h2 h3 h4
    have := fin h1 h2 h3 h4 hs'
    have hc : cy < 4294967296 := by omega
    have h5 : (done ++ [0]).set ys.length cy = done ++ [cy] := by rw [← h1, List.set_append_right _ _ (Nat.le_refl _), Nat.sub_self]; rfl
    rw [Nat.add_comm] at this
    simp -dsimp (disch := first | omega | assumption | apply agg_two | apply agg_nInt | apply agg_rInt | (simp only [J1,J2,J3,J4,J5,J6,J7,J8]; omega)) only [i177, go_sem,↓reduceIte,reduceCtorEq,Nat.reduceEqDiff,Nat.reduceAdd,Nat.reduceSub,Nat.reduceMul,Nat.reduceLT,Nat.reduceLeDiff,Nat.reduceBEq,Nat.reduceBNe,Int.reduceLT,Int.reduceLE,Int.reduceEq,Int.reduceNeg,Int.reduceAdd,Int.reduceSub,Int.reduceMul,Int.reduceToNat,Int.reducePow,Nat.reducePow, g0, g5, g6, this, h5]
  · simp -dsimp (disch := first | omega | assumption | apply agg_two | apply agg_nInt | apply agg_rInt | (simp only [J1,J2,J3,J4,J5,J6,J7,J8]; omega)) only [i177, go_sem,↓reduceIte,reduceCtorEq,Nat.reduceEqDiff,Nat.reduceAdd,Nat.reduceSub,Nat.reduceMul,Nat.reduceLT,Nat.reduceLeDiff,Nat.reduceBEq,Nat.reduceBNe,Int.reduceLT,Int.reduceLE,Int.reduceEq,Int.reduceNeg,Int.reduceAdd,Int.reduceSub,Int.reduceMul,Int.reduceToNat,Int.reducePow,Nat.reducePow]
    refine plus_loop (t := t) (t' := t') hx hy (by omega) (by omega) (by simp -dsimp (disch := first | omega | assumption | apply agg_two | apply agg_nInt | apply agg_rInt | (simp only [J1,J2,J3,J4,J5,J6,J7,J8]; omega)) only [go_sem,↓reduceIte,reduceCtorEq,Nat.reduceEqDiff,Nat.reduceAdd,Nat.reduceSub,Nat.reduceMul,Nat.reduceLT,Nat.reduceLeDiff,Nat.reduceBEq,Nat.reduceBNe,Int.reduceLT,Int.reduceLE,Int.reduceEq,Int.reduceNeg,Int.reduceAdd,Int.reduceSub,Int.reduceMul,Int.reduceToNat,Int.reducePow,Nat.reducePow]) ?_
    intro e done cy g0 g5 g6 h1 h2 h3 h4
    have := fin h1 h2 h3 h4 hs
    have hc : cy < 4294967296 := by omega
    have h5 : (done ++ [0]).set xs.length cy = done ++ [cy] := by rw [← h1, List.set_append_right _ _ (Nat.le_refl _), Nat.sub_self]; rfl
    simp -dsimp (disch := first | omega | assumption | apply agg_two | apply agg_nInt | apply agg_rInt | (simp only [J1,J2,J3,J4,J5,J6,J7,J8]; omega)) only [i177, go_sem,↓reduceIte,reduceCtorEq,Nat.reduceEqDiff,Nat.reduceAdd,Nat.reduceSub,Nat.reduceMul,Nat.reduceLT,Nat.reduceLeDiff,Nat.reduceBEq,Nat.reduceBNe,Int.reduceLT,Int.reduceLE,Int.reduceEq,Int.reduceNeg,Int.reduceAdd,Int.reduceSub,Int.reduceMul,Int.reduceToNat,Int.reducePow,Nat.reducePow, g0, g5, g6, this, h5]
theorem minus_ok (t t' : Tag) {xs ys : List Nat} (hx : Dg B32 xs) (hy : Dg B32 ys) (hl : ys.length ≤ xs.length) (hs : Small xs.length) (hv : val B32 ys ≤ val B32 xs) : ret tab.get an 178 [.sl t (u32s xs), .sl t' (u32s ys)] = some (.sl .any (u32s (digs B32 (val B32 xs - val B32 ys)))) := by
  refine ret_eq (fn := i178) rfl rfl ?_
  simp -dsimp only [i178]
  simp -dsimp (disch := first | omega | assumption | apply agg_two | apply agg_nInt | apply agg_rInt | (simp only [J1,J2,J3,J4,J5,J6,J7,J8]; omega)) only [i178, go_sem,↓reduceIte,reduceCtorEq,Nat.reduceEqDiff,Nat.reduceAdd,Nat.reduceSub,Nat.reduceMul,Nat.reduceLT,Nat.reduceLeDiff,Nat.reduceBEq,Nat.reduceBNe,Int.reduceLT,Int.reduceLE,Int.reduceEq,Int.reduceNeg,Int.reduceAdd,Int.reduceSub,Int.reduceMul,Int.reduceToNat,Int.reducePow,Nat.reducePow]
  refine pW_loop (fun a : List Nat × Nat => ⟨[(0, .fv (.sl t (u32s xs))), (1, .fv (.sl t' (u32s ys))), (5, .ref (.l 0) 1 0 xs.length true), (6, .fv (.int .u64 (a.2 : Int))), (13, .fv (.int .i64 (xs.length : Int))), (14, .fv (.int .i64 (a.1.length : Int)))], [], [.own 1 (u32s (a.1 ++ List.replicate (xs.length - a.1.length) 0))]⟩)
    (fun a => a.1.length ≤ xs.length ∧ Dg B32 a.1 ∧ a.2 ≤ 1 ∧ val B32 a.1 + val B32 (ys.take a.1.length) = val B32 (xs.take a.1.length) + B32 ^ a.1.length * a.2) (fun a => xs.length - a.1.length) ([], 0) (by simp -dsimp (disch := first | omega | assumption | apply agg_two | apply agg_nInt | apply agg_rInt | (simp only [J1,J2,J3,J4,J5,J6,J7,J8]; omega)) only [go_sem,↓reduceIte,reduceCtorEq,Nat.reduceEqDiff,Nat.reduceAdd,Nat.reduceSub,Nat.reduceMul,Nat.reduceLT,Nat.reduceLeDiff,Nat.reduceBEq,Nat.reduceBNe,Int.reduceLT,Int.reduceLE,Int.reduceEq,Int.reduceNeg,Int.reduceAdd,Int.reduceSub,Int.reduceMul,Int.reduceToNat,Int.reducePow,Nat.reducePow]) (by simp [val, Dg.nil]) ?_
  rintro ⟨done, cy⟩ ⟨h1, h2, h3, h4⟩
  simp only at h1 h2 h3 h4
  by_cases hi : done.length < xs.length
  · have b1 : at0 xs done.length < 4294967296 := at0_lt hx (by decide) done.length
    have b2 : at0 ys done.length < 4294967296 := at0_lt hy (by decide) done.length
    have v1 := val_take_le (b := B32) done.length xs
    have v2 := val_take_le (b := B32) done.length ys
    have inv : ∀ d c : Nat, d + at0 ys done.length + cy = at0 xs done.length + 4294967296 * c → c ≤ 1 → d < 4294967296 → (done ++ [d]).length ≤ xs.length ∧ Dg B32 (done ++ [d]) ∧ c ≤ 1 ∧ val B32 (done ++ [d]) + val B32 (ys.take (done ++ [d]).length) = val B32 (xs.take (done ++ [d]).length) + B32 ^ (done ++ [d]).length * c := by
      intro d c e1 e2 e3
      refine ⟨by simp; omega, h2.append (.cons e3 .nil), e2, ?_⟩
      simp only [List.length_append, List.length_cons, List.length_nil, Nat.zero_add, v1, v2, val_snoc]
      rw [Nat.pow_succ]
      generalize B32 ^ done.length = p at *
      have e4 : p * (d + at0 ys done.length + cy) = p * d + p * at0 ys done.length + p * cy := by rw [Nat.mul_add, Nat.mul_add]
      have e5 : p * (at0 xs done.length + 4294967296 * c) = p * at0 xs done.length + p * B32 * c := by rw [Nat.mul_add, Nat.mul_assoc]
      rw [e1, e5] at e4
      omega
    have fin : ∀ d c : Nat, d + at0 ys done.length + cy = at0 xs done.length + 4294967296 * c → c ≤ 1 → d < 4294967296 → ∀ z w : Nat, w = d → z / 9223372036854775808 = c → ∃ a : List Nat × Nat, (⟨[(0, .fv (.sl t (u32s xs))), (1, .fv (.sl t' (u32s ys))), (5, .ref (.l 0) 1 0 xs.length true), (6, .fv (.int .u64 ((z / 9223372036854775808 : Nat) : Int))), (13, .fv (.int .i64 (xs.length : Int))), (14, .fv (.int .i64 ((done.length + 1 : Nat) : Int)))], [], [.own 1 (u32s ((done ++ List.replicate (xs.length - done.length) 0).set done.length w))]⟩ : St) =
         ⟨[(0, .fv (.sl t (u32s xs))), (1, .fv (.sl t' (u32s ys))), (5, .ref (.l 0) 1 0 xs.length true), (6, .fv (.int .u64 (a.2 : Int))), (13, .fv (.int .i64 (xs.length : Int))), (14, .fv (.int .i64 (a.1.length : Int)))], [], [.own 1 (u32s (a.1 ++ List.replicate (xs.length - a.1.length) 0))]⟩ ∧
         (a.1.length ≤ xs.length ∧ Dg B32 a.1 ∧ a.2 ≤ 1 ∧ val B32 a.1 + val B32 (ys.take a.1.length) = val B32 (xs.take a.1.length) + B32 ^ a.1.length * a.2) ∧ xs.length - a.1.length < xs.length - done.length := by
      intro d c e1 e2 e3 z w e4 e5
      rw [e4, e5, set_zeros done _ (by omega)]
      exact ⟨(done ++ [d], c), by simp, inv d c e1 e2 e3, by simp; omega⟩
    have cs : (at0 ys done.length + cy ≤ at0 xs done.length) ∨ (cy ≤ at0 xs done.length ∧ at0 xs done.length < at0 ys done.length + cy) ∨ (at0 xs done.length < cy) := by omega
    by_cases hj : done.length < ys.length
    · rcases cs with hc | hc | hc
      · simp -dsimp only [i178b0]
        simp -dsimp (disch := first | omega | assumption | apply agg_two | apply agg_nInt | apply agg_rInt | (simp only [J1,J2,J3,J4,J5,J6,J7,J8]; omega)) only [i178, go_sem,↓reduceIte,reduceCtorEq,Nat.reduceEqDiff,Nat.reduceAdd,Nat.reduceSub,Nat.reduceMul,Nat.reduceLT,Nat.reduceLeDiff,Nat.reduceBEq,Nat.reduceBNe,Int.reduceLT,Int.reduceLE,Int.reduceEq,Int.reduceNeg,Int.reduceAdd,Int.reduceSub,Int.reduceMul,Int.reduceToNat,Int.reducePow,Nat.reducePow]
        exact next (fin (at0 xs done.length - cy - at0 ys done.length) 0 (by omega) (by omega) (by omega) _ _ (by omega) (by omega))
      · simp -dsimp only [i178b0]
        simp -dsimp (disch := first | omega | assumption | apply agg_two | apply agg_nInt | apply agg_rInt | (simp only [J1,J2,J3,J4,J5,J6,J7,J8]; omega)) only [i178, go_sem,↓reduceIte,reduceCtorEq,Nat.reduceEqDiff,Nat.reduceAdd,Nat.reduceSub,Nat.reduceMul,Nat.reduceLT,Nat.reduceLeDiff,Nat.reduceBEq,Nat.reduceBNe,Int.reduceLT,Int.reduceLE,Int.reduceEq,Int.reduceNeg,Int.reduceAdd,Int.reduceSub,Int.reduceMul,Int.reduceToNat,Int.reducePow,Nat.reducePow]
        exact next (fin (at0 xs done.length + 4294967296 - cy - at0 ys done.length) 1 (by omega) (by omega) (by omega) _ _ (by omega) (by omega))
      · simp -dsimp only [i178b0]
        simp -dsimp (disch := first | omega | assumption | apply agg_two | apply agg_nInt | apply agg_rInt | (simp only [J1,J2,J3,J4,J5,J6,J7,J8]; omega)) only [i178, go_sem,↓reduceIte,reduceCtorEq,Nat.reduceEqDiff,Nat.reduceAdd,Nat.reduceSub,Nat.reduceMul,Nat.reduceLT,Nat.reduceLeDiff,Nat.reduceBEq,Nat.reduceBNe,Int.reduceLT,Int.reduceLE,Int.reduceEq,Int.reduceNeg,Int.reduceAdd,Int.reduceSub,Int.reduceMul,Int.reduceToNat,Int.reducePow,Nat.reducePow]
        exact next (fin (at0 xs done.length + 4294967296 - cy - at0 ys done.length) 1 (by omega) (by omega) (by omega) _ _ (by omega) (by omega))
    · have z2 : at0 ys done.length = 0 := at0_out (by omega)
      rcases cs with hc | hc | hc
      · simp -dsimp only [i178b0]
        simp -dsimp (disch := first | omega | assumption | apply agg_two | apply agg_nInt | apply agg_rInt | (simp only [J1,J2,J3,J4,J5,J6,J7,J8]; omega)) only [i178, go_sem,↓reduceIte,reduceCtorEq,Nat.reduceEqDiff,Nat.reduceAdd,Nat.reduceSub,Nat.reduceMul,Nat.reduceLT,Nat.reduceLeDiff,Nat.reduceBEq,Nat.reduceBNe,Int.reduceLT,Int.reduceLE,Int.reduceEq,Int.reduceNeg,Int.reduceAdd,Int.reduceSub,Int.reduceMul,Int.reduceToNat,Int.reducePow,Nat.reducePow]
        exact next (fin (at0 xs done.length - cy) 0 (by omega) (by omega) (by omega) _ _ (by omega) (by omega))
      · omega
      · simp -dsimp only [i178b0]
        simp -dsimp (disch := first | omega | assumption | apply agg_two | apply agg_nInt | apply agg_rInt | (simp only [J1,J2,J3,J4,J5,J6,J7,J8]; omega)) only [i178, go_sem,↓reduceIte,reduceCtorEq,Nat.reduceEqDiff,Nat.reduceAdd,Nat.reduceSub,Nat.reduceMul,Nat.reduceLT,Nat.reduceLeDiff,Nat.reduceBEq,Nat.reduceBNe,Int.reduceLT,Int.reduceLE,Int.reduceEq,Int.reduceNeg,Int.reduceAdd,Int.reduceSub,Int.reduceMul,Int.reduceToNat,Int.reducePow,Nat.reducePow]
        exact next (fin (at0 xs done.length + 4294967296 - cy) 1 (by omega) (by omega) (by omega) _ _ (by omega) (by omega))
  · have he : done.length = xs.length := by omega
    have e1 : done ++ List.replicate (xs.length - done.length) 0 = done := by rw [he, Nat.sub_self]; simp
    rw [he, val_take_all (Nat.le_refl _), val_take_all hl] at h4
    have v1 := val_lt h2
    rw [he] at v1
    have hcy : cy = 0 := by
      rcases Nat.eq_zero_or_pos cy with h | h
      · exact h
      · have : cy = 1 := by omega
        subst this; omega
    have e2 : val B32 done = val B32 xs - val B32 ys := by rw [hcy] at h4; omega
    have e3 := trim_ok .any h2 (by omega)
    rw [e2] at e3
    simp -dsimp only [i178b0]
    simp -dsimp (disch := first | omega | assumption | apply agg_two | apply agg_nInt | apply agg_rInt | (simp only [J1,J2,J3,J4,J5,J6,J7,J8]; omega)) only [i178, go_sem,↓reduceIte,reduceCtorEq,Nat.reduceEqDiff,Nat.reduceAdd,Nat.reduceSub,Nat.reduceMul,Nat.reduceLT,Nat.reduceLeDiff,Nat.reduceBEq,Nat.reduceBNe,Int.reduceLT,Int.reduceLE,Int.reduceEq,Int.reduceNeg,Int.reduceAdd,Int.reduceSub,Int.reduceMul,Int.reduceToNat,Int.reducePow,Nat.reducePow, e1, e3]
end Go.Proofs.YtklelbidjcealaaGreat
namespace Go.Proofs.YtklelbidjcealaaGreat
open Go Go.Ab
def Bd (k : Nat) (z : Int) : Prop := z.natAbs < 2 ^ k
abbrev Fair (k : Nat) : Prop := k ≤ 100000000000
theorem Bd.mono {j k : Nat} {z : Int} (h : Bd j z) (hk : j ≤ k) : Bd k z := Nat.lt_of_lt_of_le h (Nat.pow_le_pow_right (by omega) hk)
theorem Bd.zero (k : Nat) : Bd k 0 := Nat.pow_pos (by omega)
theorem Bd.neg {k : Nat} {z : Int} (h : Bd k z) : Bd k (-z) := by unfold Bd at *; omega
theorem Bd.add {j k : Nat} {a b : Int} (h : Bd j a) (h' : Bd k b) : Bd (max j k + 1) (a + b) := by
  have h1 := h.mono (Nat.le_max_left j k)
  have h2 := h'.mono (Nat.le_max_right j k)
  unfold Bd at *
  rw [Nat.pow_succ]; omega
theorem Bd.add' {k : Nat} {a b : Int} (h : Bd k a) (h' : Bd k b) : Bd (k + 1) (a + b) := by
  have := h.add h'; rwa [Nat.max_self] at this
theorem Bd.sub' {k : Nat} {a b : Int} (h : Bd k a) (h' : Bd k b) : Bd (k + 1) (a - b) := by
  rw [Int.sub_eq_add_neg]; exact h.add' h'.neg
theorem Bd.mul {j k : Nat} {a b : Int} (h : Bd j a) (h' : Bd k b) : Bd (j + k) (a * b) := by
  unfold Bd at *
  rw [Int.natAbs_mul, Nat.pow_add]
  exact Nat.mul_lt_mul'' h h'
theorem Bd.len {k : Nat} {z : Int} (h : Bd k z) : (digs B32 z.natAbs).length ≤ k := digs_len_bits (w := 32) (by decide) h
theorem nInt_I {k : Nat} {z : Int} (h : Bd k z) (hk : k ≤ 1000000000000) : IsI (nInt z) z := nInt_isI h hk
theorem IsI.agg {x : FV} {z : Int} (h : IsI x z) : Agg 2 x := by obtain ⟨b, t, xs, rfl, _⟩ := h; exact agg_two _ _
theorem c3_ge {a b : Int} (h : b ≤ a) : c3 a b ≥ 0 := by
  unfold c3; rw [if_neg (by omega)]; split <;> omega
theorem sum_ok {x y : FV} {a b : Int} {k : Nat} (hx : IsI x a) (hy : IsI y b) (ha : Bd k a) (hb : Bd k b) (hk : Fair k) (mb : Bool) :
    ret tab.get an 151 [x, y, .bool mb] = some (nInt (if mb then a - b else a + b)) := by
  have m1 := mag'_ok hx
  have m2 := mag'_ok hy
  have n1 := neg'_ok hx
  have n2 := neg'_ok hy
  have ax := hx.agg
  have ay := hy.agg
  have la := ha.len
  have lb := hb.len
  have da := digs_Dg (b := B32) (by decide) a.natAbs
  have db := digs_Dg (b := B32) (by decide) b.natAbs
  have va := val_digs (b := B32) (by decide) a.natAbs
  have vb := val_digs (b := B32) (by decide) b.natAbs
  have hc := cmp_ok .any .any (digs_small hx) (digs_small hy)
  have hp := plus_ok .any .any da db (by omega) (by omega)
  rw [va, vb] at hp
  have md : ∀ (s : Bool) (n : Nat), n < 2 ^ (k + 1) → ret tab.get an 134 [.bool s, .sl .any (u32s (digs B32 n))] = some (nInt (sg s n)) := by
    intro s n hn
    have := made_ok s .any (digs_Dg (b := B32) (by decide) n) (Nat.le_trans (digs_len_bits (w := 32) (by decide) hn) (by omega))
    rwa [val_digs (by decide)] at this
  unfold Bd at ha hb
  have pk : 2 ^ (k + 1) = 2 ^ k * 2 := Nat.pow_succ ..
  have ag := agg_nInt
  refine ret_eq (fn := i151) rfl rfl ?_
  simp -dsimp only [i151]
  generalize hs : decide (a < 0) = s at n1
  generalize hu : decide (b < 0) = u at n2
  by_cases h : s = (u != mb)
  · have e : sg (u != mb) (a.natAbs + b.natAbs) = if mb then a - b else a + b := by
      rw [← hs, ← hu] at h
      rw [← hu]
      cases mb <;> by_cases h1 : a < 0 <;> by_cases h2 : b < 0 <;> simp [h1, h2] at h <;> simp [sg, h2] <;> omega
    have hm := md (u != mb) (a.natAbs + b.natAbs) (by omega)
    rw [e] at hm
    have ag1 := ag (if mb then a - b else a + b)
    subst h
    simp -dsimp (disch := first | omega | assumption | apply agg_two | apply agg_nInt | apply agg_rInt | (simp only [J1,J2,J3,J4,J5,J6,J7,J8]; omega)) only [i151, ↓i151d0t, i151d0, ↓i151d1t, i151d1, go_sem,↓reduceIte,reduceCtorEq,Nat.reduceEqDiff,Nat.reduceAdd,Nat.reduceSub,Nat.reduceMul,Nat.reduceLT,Nat.reduceLeDiff,Nat.reduceBEq,Nat.reduceBNe,Int.reduceLT,Int.reduceLE,Int.reduceEq,Int.reduceNeg,Int.reduceAdd,Int.reduceSub,Int.reduceMul,Int.reduceToNat,Int.reducePow,Nat.reducePow, m1, m2, n1, n2, hp, hm]
  · have hb' : (s == (u != mb)) = false := by simpa using h
    by_cases h2 : b.natAbs ≤ a.natAbs
    · have hc2 : c3 a.natAbs b.natAbs ≥ 0 := c3_ge (by omega)
      have hq := minus_ok .any .any da db (digs_len_mono (by decide) h2) (by omega) (by rw [va, vb]; exact h2)
      rw [va, vb] at hq
      have e : sg s (a.natAbs - b.natAbs) = if mb then a - b else a + b := by
        rw [← hs, ← hu] at h
        rw [← hs]
        cases mb <;> by_cases h1 : a < 0 <;> by_cases h2 : b < 0 <;> simp [h1, h2] at h <;> simp [sg, h1] <;> omega
      have hm := md s (a.natAbs - b.natAbs) (by omega)
      rw [e] at hm
      have ag1 := ag (if mb then a - b else a + b)
      simp -dsimp (disch := first | omega | assumption | apply agg_two | apply agg_nInt | apply agg_rInt | (simp only [J1,J2,J3,J4,J5,J6,J7,J8]; omega)) only [i151, ↓i151d0t, i151d0, ↓i151d1t, i151d1, go_sem,↓reduceIte,reduceCtorEq,Nat.reduceEqDiff,Nat.reduceAdd,Nat.reduceSub,Nat.reduceMul,Nat.reduceLT,Nat.reduceLeDiff,Nat.reduceBEq,Nat.reduceBNe,Int.reduceLT,Int.reduceLE,Int.reduceEq,Int.reduceNeg,Int.reduceAdd,Int.reduceSub,Int.reduceMul,Int.reduceToNat,Int.reducePow,Nat.reducePow, m1, m2, n1, n2, hc, hb', hq, hm]
    · have hc2 : c3 a.natAbs b.natAbs < 0 := by unfold c3; rw [if_pos (by omega)]; omega
      have hq := minus_ok .any .any db da (digs_len_mono (by decide) (by omega)) (by omega) (by rw [va, vb]; omega)
      rw [va, vb] at hq
      have e : sg (u != mb) (b.natAbs - a.natAbs) = if mb then a - b else a + b := by
        rw [← hs, ← hu] at h
        rw [← hu]
        cases mb <;> by_cases h1 : a < 0 <;> by_cases h2 : b < 0 <;> simp [h1, h2] at h <;> simp [sg, h2] <;> omega
      have hm := md (u != mb) (b.natAbs - a.natAbs) (by omega)
      rw [e] at hm
      have ag1 := ag (if mb then a - b else a + b)
      simp -dsimp (disch := first | omega | assumption | apply agg_two | apply agg_nInt | apply agg_rInt | (simp only [J1,J2,J3,J4,J5,J6,J7,J8]; omega)) only [i151, ↓i151d0t, i151d0, ↓i151d1t, i151d1, go_sem,↓reduceIte,reduceCtorEq,Nat.reduceEqDiff,Nat.reduceAdd,Nat.reduceSub,Nat.reduceMul,Nat.reduceLT,Nat.reduceLeDiff,Nat.reduceBEq,Nat.reduceBNe,Int.reduceLT,Int.reduceLE,Int.reduceEq,Int.reduceNeg,Int.reduceAdd,Int.reduceSub,Int.reduceMul,Int.reduceToNat,Int.reducePow,Nat.reducePow, m1, m2, n1, n2, hc, hb', hq, hm]
theorem Add_ok {x y : FV} {a b : Int} {k : Nat} (hx : IsI x a) (hy : IsI y b) (ha : Bd k a) (hb : Bd k b) (hk : Fair k) : ret tab.get an 103 [x, y] = some (nInt (a + b)) := by
  have h := sum_ok hx hy ha hb hk false
  have ax := hx.agg
  have ay := hy.agg
  have ag := agg_nInt (a + b)
  rw [if_neg (by decide)] at h
  refine ret_eq (fn := i103) rfl rfl ?_
  simp -dsimp only [i103]
  simp -dsimp (disch := first | omega | assumption | apply agg_two | apply agg_nInt | apply agg_rInt | (simp only [J1,J2,J3,J4,J5,J6,J7,J8]; omega)) only [i103, go_sem,↓reduceIte,reduceCtorEq,Nat.reduceEqDiff,Nat.reduceAdd,Nat.reduceSub,Nat.reduceMul,Nat.reduceLT,Nat.reduceLeDiff,Nat.reduceBEq,Nat.reduceBNe,Int.reduceLT,Int.reduceLE,Int.reduceEq,Int.reduceNeg,Int.reduceAdd,Int.reduceSub,Int.reduceMul,Int.reduceToNat,Int.reducePow,Nat.reducePow, h]
theorem Sub_ok {x y : FV} {a b : Int} {k : Nat} (hx : IsI x a) (hy : IsI y b) (ha : Bd k a) (hb : Bd k b) (hk : Fair k) : ret tab.get an 153 [x, y] = some (nInt (a - b)) := by
  have h := sum_ok hx hy ha hb hk true
  have ax := hx.agg
  have ay := hy.agg
  have ag := agg_nInt (a - b)
  rw [if_pos rfl] at h
  refine ret_eq (fn := i153) rfl rfl ?_
  simp -dsimp only [i153]
  simp -dsimp (disch := first | omega | assumption | apply agg_two | apply agg_nInt | apply agg_rInt | (simp only [J1,J2,J3,J4,J5,J6,J7,J8]; omega)) only [i153, go_sem,↓reduceIte,reduceCtorEq,Nat.reduceEqDiff,Nat.reduceAdd,Nat.reduceSub,Nat.reduceMul,Nat.reduceLT,Nat.reduceLeDiff,Nat.reduceBEq,Nat.reduceBNe,Int.reduceLT,Int.reduceLE,Int.reduceEq,Int.reduceNeg,Int.reduceAdd,Int.reduceSub,Int.reduceMul,Int.reduceToNat,Int.reducePow,Nat.reducePow, h]
end Go.Proofs.YtklelbidjcealaaGreat
namespace Go.Proofs.YtklelbidjcealaaGreat
open Go Go.Ab
theorem mul_lt32 {u v : Nat} (hu : u < 4294967296) (hv : v < 4294967296) : u * v ≤ 18446744065119617025 := by
  have : u * v ≤ 4294967295 * 4294967295 := Nat.mul_le_mul (by omega) (by omega)
  omega
theorem school_in {Q : IExit → St → Prop} {t t' : Tag} {xs ys o0 : List Nat} {i u n : Nat} (hy : Dg B32 ys) (ho : Dg B32 o0) (hn : o0.length = n) (hi : i + ys.length < n) (hs : n ≤ 1000000000000) (hu : u < 4294967296) {st : St}
    (h0 : gc [1, 5, 6, 7, 8, 17, 18, 19, 24, 25, 26] st = ⟨[(1, .fv (.sl t' (u32s ys))), (5, .ref (.l 0) 1 0 n true), (6, .fv (.int .i64 (i : Int))), (7, .fv (.int .u32 (u : Int))), (8, .fv (.int .u64 0)), (17, .fv (.sl t (u32s xs))), (18, .fv (.int .i64 (xs.length : Int))), (19, .fv (.int .i64 (i : Int))), (24, .fv (.sl t' (u32s ys))), (25, .fv (.int .i64 (ys.length : Int))), (26, .fv (.int .i64 0))], [], [.own 1 (u32s o0)]⟩)
    (hQ : ∀ e o cy, e.get 1 = .fv (.sl t' (u32s ys)) → e.get 5 = .ref (.l 0) 1 0 n true → e.get 6 = .fv (.int .i64 (i : Int)) → e.get 8 = .fv (.int .u64 ((cy : Nat) : Int)) → e.get 17 = .fv (.sl t (u32s xs)) → e.get 18 = .fv (.int .i64 (xs.length : Int)) → e.get 19 = .fv (.int .i64 (i : Int)) →
      o.length = n → Dg B32 o → cy < 4294967296 → val B32 o + B32 ^ (i + ys.length) * cy = val B32 o0 + B32 ^ i * (u * val B32 ys) → (∀ p, i + ys.length ≤ p → at0 o p = at0 o0 p) → Q (.exit 2) ⟨e, [], [.own 1 (u32s o)]⟩) :
    pW Q tab.get an 193 (.loop [1, 5, 6, 7, 8, 17, 18, 19, 24, 25, 26] i193b0) st .mk := by
  refine pW_loop (fun a : Nat × List Nat × Nat => ⟨[(1, .fv (.sl t' (u32s ys))), (5, .ref (.l 0) 1 0 n true), (6, .fv (.int .i64 (i : Int))), (7, .fv (.int .u32 (u : Int))), (8, .fv (.int .u64 (a.2.2 : Int))), (17, .fv (.sl t (u32s xs))), (18, .fv (.int .i64 (xs.length : Int))), (19, .fv (.int .i64 (i : Int))), (24, .fv (.sl t' (u32s ys))), (25, .fv (.int .i64 (ys.length : Int))), (26, .fv (.int .i64 (a.1 : Int)))], [], [.own 1 (u32s a.2.1)]⟩)
    (fun a => a.1 ≤ ys.length ∧ a.2.1.length = n ∧ Dg B32 a.2.1 ∧ a.2.2 < 4294967296 ∧ val B32 a.2.1 + B32 ^ (i + a.1) * a.2.2 = val B32 o0 + B32 ^ i * (u * val B32 (ys.take a.1)) ∧ ∀ p, i + a.1 ≤ p → at0 a.2.1 p = at0 o0 p) (fun a => ys.length - a.1) (0, o0, 0) (by rw [h0]; rfl) ⟨by omega, hn, ho, by show 0 < 4294967296; omega, by simp [val], fun _ _ => rfl⟩ ?_
  rintro ⟨j, o, cy⟩ ⟨h1, h2, h3, h4, h5, h6⟩
  simp only at h1 h2 h3 h4 h5 h6
  by_cases hj : j < ys.length
  · have b1 : at0 ys j < 4294967296 := at0_lt hy (by decide) j
    have b2 : at0 o (i + j) < 4294967296 := at0_lt h3 (by decide) _
    have b3 := mul_lt32 hu b1
    have v1 := val_take_le (b := B32) j ys
    simp -dsimp only [i193b0]
    simp -dsimp (disch := first | omega | assumption | apply agg_two | apply agg_nInt | apply agg_rInt | (simp only [J1,J2,J3,J4,J5,J6,J7,J8]; omega)) only [i193, go_sem,↓reduceIte,reduceCtorEq,Nat.reduceEqDiff,Nat.reduceAdd,Nat.reduceSub,Nat.reduceMul,Nat.reduceLT,Nat.reduceLeDiff,Nat.reduceBEq,Nat.reduceBNe,Int.reduceLT,Int.reduceLE,Int.reduceEq,Int.reduceNeg,Int.reduceAdd,Int.reduceSub,Int.reduceMul,Int.reduceToNat,Int.reducePow,Nat.reducePow]
    generalize hz : cy + (u * at0 ys j + at0 o (i + j)) = z
    refine next ⟨(j + 1, o.set (i + j) (z % 4294967296), z / 4294967296), rfl, ⟨by omega, by simp [h2], h3.set (Nat.mod_lt _ (by decide)), by simp only; omega, ?_, ?_⟩, by simp only; omega⟩
    · simp only
      have e1 := Nat.mod_add_div z 4294967296
      have e2 := val_set (b := B32) (i := i + j) (v := z % 4294967296) (xs := o) (by omega)
      rw [v1, show i + (j + 1) = (i + j) + 1 by omega, Nat.pow_succ, Nat.mul_add, Nat.mul_add]
      have e3 : B32 ^ (i + j) * (z % 4294967296) + B32 ^ (i + j) * B32 * (z / 4294967296) = B32 ^ (i + j) * z := by rw [Nat.mul_assoc, ← Nat.mul_add, e1]
      have e4 : B32 ^ i * (u * (B32 ^ j * at0 ys j)) = B32 ^ (i + j) * (u * at0 ys j) := by rw [Nat.pow_add]; grind
      have e5 : B32 ^ (i + j) * z = B32 ^ (i + j) * cy + B32 ^ (i + j) * (u * at0 ys j) + B32 ^ (i + j) * at0 o (i + j) := by rw [← hz]; simp only [Nat.mul_add]; omega
      omega
    · intro p hp
      simp only at hp ⊢
      rw [at0_set (by omega), if_neg (by omega)]
      exact h6 p (by omega)
  · have he : j = ys.length := by omega
    subst he
    rw [List.take_length] at h5
    simp -dsimp only [i193b0]
    simp -dsimp (disch := first | omega | assumption | apply agg_two | apply agg_nInt | apply agg_rInt | (simp only [J1,J2,J3,J4,J5,J6,J7,J8]; omega)) only [i193, go_sem,↓reduceIte,reduceCtorEq,Nat.reduceEqDiff,Nat.reduceAdd,Nat.reduceSub,Nat.reduceMul,Nat.reduceLT,Nat.reduceLeDiff,Nat.reduceBEq,Nat.reduceBNe,Int.reduceLT,Int.reduceLE,Int.reduceEq,Int.reduceNeg,Int.reduceAdd,Int.reduceSub,Int.reduceMul,Int.reduceToNat,Int.reducePow,Nat.reducePow]
    exact hQ _ o cy rfl rfl rfl rfl rfl rfl rfl h2 h3 h4 h5 h6
theorem school_ok (t t' : Tag) {xs ys : List Nat} (hx : Dg B32 xs) (hy : Dg B32 ys) (hs : xs.length + ys.length ≤ 1000000000000) :
    ret tab.get an 193 [.sl t (u32s xs), .sl t' (u32s ys)] = some (.sl .any (u32s (digs B32 (val B32 xs * val B32 ys)))) := by
  refine ret_eq (fn := i193) rfl rfl ?_
  simp -dsimp only [i193]
  simp -dsimp (disch := first | omega | assumption | apply agg_two | apply agg_nInt | apply agg_rInt | (simp only [J1,J2,J3,J4,J5,J6,J7,J8]; omega)) only [i193, go_sem,↓reduceIte,reduceCtorEq,Nat.reduceEqDiff,Nat.reduceAdd,Nat.reduceSub,Nat.reduceMul,Nat.reduceLT,Nat.reduceLeDiff,Nat.reduceBEq,Nat.reduceBNe,Int.reduceLT,Int.reduceLE,Int.reduceEq,Int.reduceNeg,Int.reduceAdd,Int.reduceSub,Int.reduceMul,Int.reduceToNat,Int.reducePow,Nat.reducePow]
  refine pW_loop (fun a : Nat × List Nat => ⟨[(1, .fv (.sl t' (u32s ys))), (5, .ref (.l 0) 1 0 (xs.length + ys.length) true), (17, .fv (.sl t (u32s xs))), (18, .fv (.int .i64 (xs.length : Int))), (19, .fv (.int .i64 (a.1 : Int)))], [], [.own 1 (u32s a.2)]⟩)
    (fun a => a.1 ≤ xs.length ∧ a.2.length = xs.length + ys.length ∧ Dg B32 a.2 ∧ val B32 a.2 = val B32 (xs.take a.1) * val B32 ys ∧ ∀ p, a.1 + ys.length ≤ p → at0 a.2 p = 0) (fun a => xs.length - a.1) (0, List.replicate (xs.length + ys.length) 0) (by simp -dsimp (disch := first | omega | assumption | apply agg_two | apply agg_nInt | apply agg_rInt | (simp only [J1,J2,J3,J4,J5,J6,J7,J8]; omega)) only [go_sem,↓reduceIte,reduceCtorEq,Nat.reduceEqDiff,Nat.reduceAdd,Nat.reduceSub,Nat.reduceMul,Nat.reduceLT,Nat.reduceLeDiff,Nat.reduceBEq,Nat.reduceBNe,Int.reduceLT,Int.reduceLE,Int.reduceEq,Int.reduceNeg,Int.reduceAdd,Int.reduceSub,Int.reduceMul,Int.reduceToNat,Int.reducePow,Nat.reducePow]) ⟨by omega, by simp, .zeros (by decide) _, by simp [val, val_zeros], fun _ _ => at0_zeros _ _⟩ ?_
  rintro ⟨i, o0⟩ ⟨h1, h2, h3, h4, h5⟩
  simp only at h1 h2 h3 h4 h5
  by_cases hi : i < xs.length
  · have b1 : at0 xs i < 4294967296 := at0_lt hx (by decide) i
    have v1 := val_take_le (b := B32) i xs
    simp -dsimp only [i193b1]
    simp -dsimp (disch := first | omega | assumption | apply agg_two | apply agg_nInt | apply agg_rInt | (simp only [J1,J2,J3,J4,J5,J6,J7,J8]; omega)) only [i193, go_sem,↓reduceIte,reduceCtorEq,Nat.reduceEqDiff,Nat.reduceAdd,Nat.reduceSub,Nat.reduceMul,Nat.reduceLT,Nat.reduceLeDiff,Nat.reduceBEq,Nat.reduceBNe,Int.reduceLT,Int.reduceLE,Int.reduceEq,Int.reduceNeg,Int.reduceAdd,Int.reduceSub,Int.reduceMul,Int.reduceToNat,Int.reducePow,Nat.reducePow]
    refine school_in (t := t) (t' := t') (xs := xs) (ys := ys) (o0 := o0) (i := i) (u := at0 xs i) (n := xs.length + ys.length) hy h3 h2 (by omega) hs b1 (by simp -dsimp (disch := first | omega | assumption | apply agg_two | apply agg_nInt | apply agg_rInt | (simp only [J1,J2,J3,J4,J5,J6,J7,J8]; omega)) only [go_sem,↓reduceIte,reduceCtorEq,Nat.reduceEqDiff,Nat.reduceAdd,Nat.reduceSub,Nat.reduceMul,Nat.reduceLT,Nat.reduceLeDiff,Nat.reduceBEq,Nat.reduceBNe,Int.reduceLT,Int.reduceLE,Int.reduceEq,Int.reduceNeg,Int.reduceAdd,Int.reduceSub,Int.reduceMul,Int.reduceToNat,Int.reducePow,Nat.reducePow]) ?_
    intro e o cy g1 g5 g6 g8 g17 g18 g19 k1 k2 k3 k4 k5
    simp -dsimp (disch := first | omega | assumption | apply agg_two | apply agg_nInt | apply agg_rInt | (simp only [J1,J2,J3,J4,J5,J6,J7,J8]; omega)) only [i193, go_sem,↓reduceIte,reduceCtorEq,Nat.reduceEqDiff,Nat.reduceAdd,Nat.reduceSub,Nat.reduceMul,Nat.reduceLT,Nat.reduceLeDiff,Nat.reduceBEq,Nat.reduceBNe,Int.reduceLT,Int.reduceLE,Int.reduceEq,Int.reduceNeg,Int.reduceAdd,Int.reduceSub,Int.reduceMul,Int.reduceToNat,Int.reducePow,Nat.reducePow, g1, g5, g6, g8, g17, g18, g19]
    refine next ⟨(i + 1, o.set (i + ys.length) cy), rfl, ⟨by omega, by simp [k1], k2.set k3, ?_, ?_⟩, by simp only; omega⟩
    · simp only
      have e2 := val_set (b := B32) (i := i + ys.length) (v := cy) (xs := o) (by omega)
      have e3 : at0 o (i + ys.length) = 0 := by rw [k5 _ (Nat.le_refl _)]; exact h5 _ (Nat.le_refl _)
      rw [e3, Nat.mul_zero, Nat.add_zero] at e2
      rw [e2, k4, h4, v1, Nat.add_mul, Nat.mul_assoc]
    · intro p hp
      simp only at hp ⊢
      rw [at0_set (by omega), if_neg (by omega), k5 p (by omega)]
      exact h5 p (by omega)
  · have he : i = xs.length := by omega
    subst he
    rw [List.take_length] at h4
    have e3 := trim_ok .any h3 (by omega)
    rw [h4] at e3
    simp -dsimp only [i193b1]
    simp -dsimp (disch := first | omega | assumption | apply agg_two | apply agg_nInt | apply agg_rInt | (simp only [J1,J2,J3,J4,J5,J6,J7,J8]; omega)) only [i193, go_sem,↓reduceIte,reduceCtorEq,Nat.reduceEqDiff,Nat.reduceAdd,Nat.reduceSub,Nat.reduceMul,Nat.reduceLT,Nat.reduceLeDiff,Nat.reduceBEq,Nat.reduceBNe,Int.reduceLT,Int.reduceLE,Int.reduceEq,Int.reduceNeg,Int.reduceAdd,Int.reduceSub,Int.reduceMul,Int.reduceToNat,Int.reducePow,Nat.reducePow, e3]
theorem val_shift (b k : Nat) (xs : List Nat) : val b (List.replicate k 0 ++ xs) = b ^ k * val b xs := by
  rw [val_append, val_zeros, List.length_replicate]; omega
theorem up_ok (t : Tag) {xs : List Nat} {k : Nat} (hs : xs.length + k ≤ 1000000000000) : ∃ t', ret tab.get an 194 [.sl t (u32s xs), .int .i64 (k : Int)] = some (.sl t' (u32s (if xs = [] then [] else List.replicate k 0 ++ xs))) := by
  by_cases h : xs = []
  · refine ⟨.nil, ?_⟩
    subst h
    refine ret_eq (fn := i194) rfl rfl ?_
    simp -dsimp only [i194]
    simp -dsimp (disch := first | omega | assumption | apply agg_two | apply agg_nInt | apply agg_rInt | (simp only [J1,J2,J3,J4,J5,J6,J7,J8]; omega)) only [i194, go_sem,↓reduceIte,reduceCtorEq,Nat.reduceEqDiff,Nat.reduceAdd,Nat.reduceSub,Nat.reduceMul,Nat.reduceLT,Nat.reduceLeDiff,Nat.reduceBEq,Nat.reduceBNe,Int.reduceLT,Int.reduceLE,Int.reduceEq,Int.reduceNeg,Int.reduceAdd,Int.reduceSub,Int.reduceMul,Int.reduceToNat,Int.reducePow,Nat.reducePow]
  · refine ⟨.any, ?_⟩
    have hp := List.length_pos_iff.2 h
    rw [if_neg h]
    refine ret_eq (fn := i194) rfl rfl ?_
    simp -dsimp only [i194]
    simp -dsimp (disch := first | omega | assumption | apply agg_two | apply agg_nInt | apply agg_rInt | (simp only [J1,J2,J3,J4,J5,J6,J7,J8]; omega)) only [i194, go_sem,↓reduceIte,reduceCtorEq,Nat.reduceEqDiff,Nat.reduceAdd,Nat.reduceSub,Nat.reduceMul,Nat.reduceLT,Nat.reduceLeDiff,Nat.reduceBEq,Nat.reduceBNe,Int.reduceLT,Int.reduceLE,Int.reduceEq,Int.reduceNeg,Int.reduceAdd,Int.reduceSub,Int.reduceMul,Int.reduceToNat,Int.reducePow,Nat.reducePow]
def upL (k : Nat) (xs : List Nat) : List Nat := if xs = [] then [] else List.replicate k 0 ++ xs
theorem upL_val (k : Nat) (xs : List Nat) : val B32 (upL k xs) = B32 ^ k * val B32 xs := by
  unfold upL
  split
  · rename_i h; subst h; rfl
  · exact val_shift _ _ _
theorem upL_Dg {k : Nat} {xs : List Nat} (h : Dg B32 xs) : Dg B32 (upL k xs) := by
  unfold upL
  split
  · exact .nil
  · exact (Dg.zeros (by decide) k).append h
theorem upL_len (k : Nat) (xs : List Nat) : (upL k xs).length ≤ k + xs.length := by
  unfold upL
  split
  · simp
  · simp
theorem mul_small {m n a b : Nat} (hm : m < B32 ^ a) (hn : n < B32 ^ b) : m * n < B32 ^ (a + b) := by
  rw [Nat.pow_add]; exact Nat.mul_lt_mul'' hm hn
theorem times_all : ∀ (n : Nat) (t t' : Tag) {xs ys : List Nat}, xs.length + ys.length ≤ n → n ≤ 100000000000 → Dg B32 xs → Dg B32 ys →
    ret tab.get an 175 [.sl t (u32s xs), .sl t' (u32s ys)] = some (.sl .any (u32s (digs B32 (val B32 xs * val B32 ys)))) := by
  intro n
  induction n using Nat.strongRecOn with
  | _ n ih =>
    have half : ∀ (t t' : Tag) {xs ys : List Nat}, ys.length ≤ xs.length → xs.length + ys.length ≤ n → n ≤ 100000000000 → Dg B32 xs → Dg B32 ys → 40 ≤ ys.length → ∀ k, k = (xs.length + 1) / 2 → ys.length ≤ k →
        ∃ t1 z, ret tab.get an 165 [.sl .any (u32s (xs.take k))] = some (.sl .any (u32s (digs B32 (val B32 (xs.take k))))) ∧
        ret tab.get an 175 [.sl .any (u32s (digs B32 (val B32 (xs.take k)))), .sl t' (u32s ys)] = some (.sl .any (u32s (digs B32 (val B32 (xs.take k) * val B32 ys)))) ∧
        ret tab.get an 175 [.sl .any (u32s (xs.drop k)), .sl t' (u32s ys)] = some (.sl .any (u32s z)) ∧
        ret tab.get an 194 [.sl .any (u32s z), .int .i64 (k : Int)] = some (.sl t1 (u32s (upL k z))) ∧
        ret tab.get an 177 [.sl .any (u32s (digs B32 (val B32 (xs.take k) * val B32 ys))), .sl t1 (u32s (upL k z))] = some (.sl .any (u32s (digs B32 (val B32 xs * val B32 ys)))) := by
      intro t t' xs ys hl hn hb hx hy h40 k hk hk2
      have lt := val_lt (hx.take k)
      rw [List.length_take, Nat.min_eq_left (by omega)] at lt
      have lt2 := digs_len (b := B32) (by decide) _ _ lt
      have ld := val_lt (hx.drop k)
      rw [List.length_drop] at ld
      have ly := val_lt hy
      have l1 := digs_len (b := B32) (by decide) _ _ (mul_small lt ly)
      have l2 := digs_len (b := B32) (by decide) _ _ (mul_small ld ly)
      obtain ⟨t1, hu⟩ := up_ok .any (xs := digs B32 (val B32 (xs.drop k) * val B32 ys)) (k := k) (by omega)
      have i1 := ih (k + ys.length) (by omega) .any t' (xs := digs B32 (val B32 (xs.take k))) (ys := ys) (by omega) (by omega) (digs_Dg (by decide) _) hy
      rw [val_digs (by decide)] at i1
      have i2 := ih (xs.length - k + ys.length) (by omega) .any t' (xs := xs.drop k) (ys := ys) (by simp) (by omega) (hx.drop k) hy
      have hpl := plus_ok .any t1 (digs_Dg (b := B32) (by decide) (val B32 (xs.take k) * val B32 ys)) (upL_Dg (k := k) (digs_Dg (b := B32) (by decide) (val B32 (xs.drop k) * val B32 ys))) (by omega) (Nat.le_trans (upL_len _ _) (by omega))
      have e : val B32 xs = val B32 (xs.take k) + B32 ^ k * val B32 (xs.drop k) := by
        conv => lhs; rw [← List.take_append_drop k xs, val_append, List.length_take, Nat.min_eq_left (by omega)]
      rw [val_digs (by decide), upL_val, val_digs (by decide), ← Nat.mul_assoc, ← Nat.add_mul, ← e] at hpl
      exact ⟨t1, _, trim_ok .any (hx.take k) (by simp; omega), i1, i2, hu, hpl⟩
    have full : ∀ {xs ys : List Nat}, ys.length ≤ xs.length → xs.length + ys.length ≤ n → n ≤ 100000000000 → Dg B32 xs → Dg B32 ys → 40 ≤ ys.length → ∀ k, k = (xs.length + 1) / 2 → k < ys.length →
        ∃ x0 y0 low high sx sy sp q1 q2 t1 t2 u1 u2 m1,
        ret tab.get an 165 [.sl .any (u32s (xs.take k))] = some (.sl .any (u32s x0)) ∧
        ret tab.get an 165 [.sl .any (u32s (ys.take k))] = some (.sl .any (u32s y0)) ∧
        ret tab.get an 175 [.sl .any (u32s x0), .sl .any (u32s y0)] = some (.sl .any (u32s low)) ∧
        ret tab.get an 175 [.sl .any (u32s (xs.drop k)), .sl .any (u32s (ys.drop k))] = some (.sl .any (u32s high)) ∧
        ret tab.get an 177 [.sl .any (u32s x0), .sl .any (u32s (xs.drop k))] = some (.sl .any (u32s sx)) ∧
        ret tab.get an 177 [.sl .any (u32s y0), .sl .any (u32s (ys.drop k))] = some (.sl .any (u32s sy)) ∧
        ret tab.get an 175 [.sl .any (u32s sx), .sl .any (u32s sy)] = some (.sl .any (u32s sp)) ∧
        ret tab.get an 178 [.sl .any (u32s sp), .sl .any (u32s low)] = some (.sl .any (u32s q1)) ∧
        ret tab.get an 178 [.sl .any (u32s q1), .sl .any (u32s high)] = some (.sl .any (u32s q2)) ∧
        ret tab.get an 194 [.sl .any (u32s q2), .int .i64 (k : Int)] = some (.sl t1 (u32s u1)) ∧
        ret tab.get an 177 [.sl .any (u32s low), .sl t1 (u32s u1)] = some (.sl .any (u32s m1)) ∧
        ret tab.get an 194 [.sl .any (u32s high), .int .i64 ((2 * k : Nat) : Int)] = some (.sl t2 (u32s u2)) ∧
        ret tab.get an 177 [.sl .any (u32s m1), .sl t2 (u32s u2)] = some (.sl .any (u32s (digs B32 (val B32 xs * val B32 ys)))) := by
      intro xs ys hl hn hb hx hy h40 k hk hk2
      have vd := fun n => val_digs (b := B32) (by decide) n
      have dd := fun n => digs_Dg (b := B32) (by decide) n
      have lx0 := val_lt (hx.take k)
      have ly0 := val_lt (hy.take k)
      have lx1 := val_lt (hx.drop k)
      have ly1 := val_lt (hy.drop k)
      rw [List.length_take, Nat.min_eq_left (by omega)] at lx0 ly0
      rw [List.length_drop] at lx1 ly1
      have ex : val B32 xs = val B32 (xs.take k) + B32 ^ k * val B32 (xs.drop k) := by
        conv => lhs; rw [← List.take_append_drop k xs, val_append, List.length_take, Nat.min_eq_left (by omega)]
      have ey : val B32 ys = val B32 (ys.take k) + B32 ^ k * val B32 (ys.drop k) := by
        conv => lhs; rw [← List.take_append_drop k ys, val_append, List.length_take, Nat.min_eq_left (by omega)]
      have p1 := trim_ok .any (hx.take k) (by simp; omega)
      have p2 := trim_ok .any (hy.take k) (by simp; omega)
      have kx : xs.length - k ≤ k := by omega
      have lx1' : val B32 (xs.drop k) < B32 ^ k := Nat.lt_of_lt_of_le lx1 (Nat.pow_le_pow_right (by decide) kx)
      have ly1' : val B32 (ys.drop k) < B32 ^ k := Nat.lt_of_lt_of_le ly1 (Nat.pow_le_pow_right (by decide) (by omega))
      have hxd := hx.drop k
      have hyd := hy.drop k
      have nx : (xs.drop k).length ≤ k := by simp; omega
      have ny : (ys.drop k).length ≤ k := by simp; omega
      generalize val B32 (xs.take k) = a0 at *
      generalize val B32 (ys.take k) = b0 at *
      generalize hX1 : xs.drop k = X1 at *
      generalize hY1 : ys.drop k = Y1 at *
      generalize ha1 : val B32 X1 = a1 at *
      generalize hb1 : val B32 Y1 = b1 at *
      have dl := fun {j n : Nat} (h : n < B32 ^ j) => digs_len (b := B32) (by decide) j n h
      have sum1 : ∀ {a b : Nat}, a < B32 ^ k → b < B32 ^ k → a + b < B32 ^ (k + 1) := fun {a b} h1 h2 => by
        rw [Nat.pow_succ]; have : (2 : Nat) ≤ B32 := by decide
        have := Nat.mul_le_mul_left (B32 ^ k) this; omega
      have c1 := dl lx0
      have c2 := dl ly0
      have c3 := dl (sum1 lx0 lx1')
      have c4 := dl (sum1 ly0 ly1')
      have c5 := dl (mul_small lx0 ly0)
      have c6 := dl (mul_small lx1' ly1')
      have hsp := mul_small (sum1 lx0 lx1') (sum1 ly0 ly1')
      have c7 := dl hsp
      have i1 := ih (k + k) (by omega) .any .any (xs := digs B32 a0) (ys := digs B32 b0) (by omega) (by omega) (dd _) (dd _)
      have i2 := ih (k + k) (by omega) .any .any (xs := X1) (ys := Y1) (by omega) (by omega) hxd hyd
      have q1 := plus_ok .any .any (dd a0) hxd (by omega) (by omega)
      have q2 := plus_ok .any .any (dd b0) hyd (by omega) (by omega)
      rw [vd, ha1] at q1
      rw [vd, hb1] at q2
      rw [vd, vd] at i1
      rw [ha1, hb1] at i2
      have i3 := ih (k + 1 + (k + 1)) (by omega) .any .any (xs := digs B32 (a0 + a1)) (ys := digs B32 (b0 + b1)) (by omega) (by omega) (dd _) (dd _)
      rw [vd, vd] at i3
      have me : (a0 + a1) * (b0 + b1) = a0 * b0 + (a0 * b1 + a1 * b0) + a1 * b1 := by simp only [Nat.add_mul, Nat.mul_add]; omega
      have m1 := minus_ok .any .any (dd ((a0 + a1) * (b0 + b1))) (dd (a0 * b0)) (digs_len_mono (by decide) (by omega)) (by omega) (by rw [vd, vd]; omega)
      rw [vd, vd, show (a0 + a1) * (b0 + b1) - a0 * b0 = (a0 * b1 + a1 * b0) + a1 * b1 by omega] at m1
      have c8 : (digs B32 ((a0 * b1 + a1 * b0) + a1 * b1)).length ≤ (digs B32 ((a0 + a1) * (b0 + b1))).length := digs_len_mono (by decide) (by omega)
      have m2 := minus_ok .any .any (dd ((a0 * b1 + a1 * b0) + a1 * b1)) (dd (a1 * b1)) (digs_len_mono (by decide) (by omega)) (by omega) (by rw [vd, vd]; omega)
      rw [vd, vd, show (a0 * b1 + a1 * b0) + a1 * b1 - a1 * b1 = a0 * b1 + a1 * b0 by omega] at m2
      have c9 : (digs B32 (a0 * b1 + a1 * b0)).length ≤ (digs B32 ((a0 + a1) * (b0 + b1))).length := digs_len_mono (by decide) (by omega)
      obtain ⟨t1, u1⟩ := up_ok .any (xs := digs B32 (a0 * b1 + a1 * b0)) (k := k) (by omega)
      obtain ⟨t2, u2⟩ := up_ok .any (xs := digs B32 (a1 * b1)) (k := 2 * k) (by omega)
      have e1 := plus_ok .any t1 (dd (a0 * b0)) (upL_Dg (k := k) (dd (a0 * b1 + a1 * b0))) (by omega) (Nat.le_trans (upL_len _ _) (by omega))
      rw [vd, upL_val, vd] at e1
      have l9 : a0 * b0 + B32 ^ k * (a0 * b1 + a1 * b0) < B32 ^ (4 * k + 4) := by
        have h1 : a0 * b0 + B32 ^ k * (a0 * b1 + a1 * b0) ≤ val B32 xs * val B32 ys := by
          rw [ex, ey]
          have : (a0 + B32 ^ k * a1) * (b0 + B32 ^ k * b1) = a0 * b0 + B32 ^ k * (a0 * b1 + a1 * b0) + B32 ^ k * a1 * (B32 ^ k * b1) := by grind
          omega
        have h2 := mul_small (val_lt hx) (val_lt hy)
        refine Nat.lt_of_le_of_lt h1 (Nat.lt_of_lt_of_le h2 (Nat.pow_le_pow_right (by decide) (by omega)))
      have c10 := dl l9
      have e2 := plus_ok .any t2 (dd (a0 * b0 + B32 ^ k * (a0 * b1 + a1 * b0))) (upL_Dg (k := 2 * k) (dd (a1 * b1))) (by omega) (Nat.le_trans (upL_len _ _) (by omega))
      rw [vd, upL_val, vd, show a0 * b0 + B32 ^ k * (a0 * b1 + a1 * b0) + B32 ^ (2 * k) * (a1 * b1) = val B32 xs * val B32 ys by rw [ex, ey, Nat.two_mul, Nat.pow_add]; grind] at e2
      exact ⟨_, _, _, _, _, _, _, _, _, t1, t2, _, _, _, p1, p2, i1, i2, q1, q2, i3, m1, m2, u1, e1, u2, e2⟩
    intro t t' xs ys hn hb hx hy
    have hd1 : ∀ {zs : List Nat} {k : Nat}, k = (zs.length + 1) / 2 → ((zs.length + 1 : Nat) : Int).tdiv 2 = (k : Int) := fun {zs k} h => by rw [h]; exact foldDiv _ 2
    refine ret_eq (fn := i175) rfl rfl ?_
    simp -dsimp only [i175]
    rcases Nat.lt_or_ge xs.length ys.length with h | h
    · by_cases h40 : xs.length < 40
      · have hsc := school_ok t' t hy hx (by omega)
        rw [Nat.mul_comm] at hsc
        simp -dsimp (disch := first | omega | assumption | apply agg_two | apply agg_nInt | apply agg_rInt | (simp only [J1,J2,J3,J4,J5,J6,J7,J8]; omega)) only [i175, ↓i175d0t, i175d0, ↓i175d1t, i175d1, go_sem,↓reduceIte,reduceCtorEq,Nat.reduceEqDiff,Nat.reduceAdd,Nat.reduceSub,Nat.reduceMul,Nat.reduceLT,Nat.reduceLeDiff,Nat.reduceBEq,Nat.reduceBNe,Int.reduceLT,Int.reduceLE,Int.reduceEq,Int.reduceNeg,Int.reduceAdd,Int.reduceSub,Int.reduceMul,Int.reduceToNat,Int.reducePow,Nat.reducePow, hsc]
      · obtain ⟨k, hk⟩ : ∃ k, k = (ys.length + 1) / 2 := ⟨_, rfl⟩
        by_cases hk2 : xs.length ≤ k
        · obtain ⟨t1, z, r1, r2, r3, r4, r5⟩ := half t' t (by omega) (by omega) hb hy hx (by omega) k hk hk2
          rw [Nat.mul_comm (val B32 ys)] at r5
          simp -dsimp (disch := first | omega | assumption | apply agg_two | apply agg_nInt | apply agg_rInt | (simp only [J1,J2,J3,J4,J5,J6,J7,J8]; omega)) only [i175, ↓i175d0t, i175d0, ↓i175d1t, i175d1, go_sem,↓reduceIte,reduceCtorEq,Nat.reduceEqDiff,Nat.reduceAdd,Nat.reduceSub,Nat.reduceMul,Nat.reduceLT,Nat.reduceLeDiff,Nat.reduceBEq,Nat.reduceBNe,Int.reduceLT,Int.reduceLE,Int.reduceEq,Int.reduceNeg,Int.reduceAdd,Int.reduceSub,Int.reduceMul,Int.reduceToNat,Int.reducePow,Nat.reducePow, ← hk, r1, r2, r3, r4, r5]
        · obtain ⟨x0, y0, low, high, sx, sy, sp, q1, q2, t1, t2, u1, u2, m1, r1, r2, r3, r4, r5, r6, r7, r8, r9, r10, r11, r12, r13⟩ := full (by omega) (by omega) hb hy hx (by omega) k hk (by omega)
          rw [Nat.mul_comm (val B32 ys)] at r13
          simp -dsimp (disch := first | omega | assumption | apply agg_two | apply agg_nInt | apply agg_rInt | (simp only [J1,J2,J3,J4,J5,J6,J7,J8]; omega)) only [i175, ↓i175d0t, i175d0, ↓i175d1t, i175d1, go_sem,↓reduceIte,reduceCtorEq,Nat.reduceEqDiff,Nat.reduceAdd,Nat.reduceSub,Nat.reduceMul,Nat.reduceLT,Nat.reduceLeDiff,Nat.reduceBEq,Nat.reduceBNe,Int.reduceLT,Int.reduceLE,Int.reduceEq,Int.reduceNeg,Int.reduceAdd,Int.reduceSub,Int.reduceMul,Int.reduceToNat,Int.reducePow,Nat.reducePow, ← hk, r1, r2, r3, r4, r5, r6, r7, r8, r9, r10, r11, r12, r13]
    · by_cases h40 : ys.length < 40
      · have hsc := school_ok t t' hx hy (by omega)
        simp -dsimp (disch := first | omega | assumption | apply agg_two | apply agg_nInt | apply agg_rInt | (simp only [J1,J2,J3,J4,J5,J6,J7,J8]; omega)) only [i175, ↓i175d0t, i175d0, ↓i175d1t, i175d1, go_sem,↓reduceIte,reduceCtorEq,Nat.reduceEqDiff,Nat.reduceAdd,Nat.reduceSub,Nat.reduceMul,Nat.reduceLT,Nat.reduceLeDiff,Nat.reduceBEq,Nat.reduceBNe,Int.reduceLT,Int.reduceLE,Int.reduceEq,Int.reduceNeg,Int.reduceAdd,Int.reduceSub,Int.reduceMul,Int.reduceToNat,Int.reducePow,Nat.reducePow, hsc]
      · obtain ⟨k, hk⟩ : ∃ k, k = (xs.length + 1) / 2 := ⟨_, rfl⟩
        by_cases hk2 : ys.length ≤ k
        · obtain ⟨t1, z, r1, r2, r3, r4, r5⟩ := half t t' (by omega) (by omega) hb hx hy (by omega) k hk hk2
          simp -dsimp (disch := first | omega | assumption | apply agg_two | apply agg_nInt | apply agg_rInt | (simp only [J1,J2,J3,J4,J5,J6,J7,J8]; omega)) only [i175, ↓i175d0t, i175d0, ↓i175d1t, i175d1, go_sem,↓reduceIte,reduceCtorEq,Nat.reduceEqDiff,Nat.reduceAdd,Nat.reduceSub,Nat.reduceMul,Nat.reduceLT,Nat.reduceLeDiff,Nat.reduceBEq,Nat.reduceBNe,Int.reduceLT,Int.reduceLE,Int.reduceEq,Int.reduceNeg,Int.reduceAdd,Int.reduceSub,Int.reduceMul,Int.reduceToNat,Int.reducePow,Nat.reducePow, ← hk, r1, r2, r3, r4, r5]
        · obtain ⟨x0, y0, low, high, sx, sy, sp, q1, q2, t1, t2, u1, u2, m1, r1, r2, r3, r4, r5, r6, r7, r8, r9, r10, r11, r12, r13⟩ := full (by omega) (by omega) hb hx hy (by omega) k hk (by omega)
          simp -dsimp (disch := first | omega | assumption | apply agg_two | apply agg_nInt | apply agg_rInt | (simp only [J1,J2,J3,J4,J5,J6,J7,J8]; omega)) only [i175, ↓i175d0t, i175d0, ↓i175d1t, i175d1, go_sem,↓reduceIte,reduceCtorEq,Nat.reduceEqDiff,Nat.reduceAdd,Nat.reduceSub,Nat.reduceMul,Nat.reduceLT,Nat.reduceLeDiff,Nat.reduceBEq,Nat.reduceBNe,Int.reduceLT,Int.reduceLE,Int.reduceEq,Int.reduceNeg,Int.reduceAdd,Int.reduceSub,Int.reduceMul,Int.reduceToNat,Int.reducePow,Nat.reducePow, ← hk, r1, r2, r3, r4, r5, r6, r7, r8, r9, r10, r11, r12, r13]
end Go.Proofs.YtklelbidjcealaaGreat
namespace Go.Proofs.YtklelbidjcealaaGreat
open Go Go.Ab
theorem sg_mul (a b : Int) : sg (decide (a < 0) != decide (b < 0)) (a.natAbs * b.natAbs) = a * b := by
  rcases Int.natAbs_eq a with h1 | h1 <;> rcases Int.natAbs_eq b with h2 | h2 <;> generalize a.natAbs = m at * <;> generalize b.natAbs = n at * <;> subst h1 <;> subst h2
  · simp [sg, show ¬ (m : Int) < 0 by omega, show ¬ (n : Int) < 0 by omega]
  · by_cases hn : n = 0
    · subst hn; simp [sg]
    · have h1 : ¬ (m : Int) < 0 := by omega
      have h2 : -(n : Int) < 0 := by omega
      simp only [sg, h1, h2, decide_true, decide_false, Bool.false_bne, Bool.true_bne, if_true, Int.natCast_mul, Int.mul_neg]
  · by_cases hm : m = 0
    · subst hm; simp [sg]
    · have h1 : ¬ (n : Int) < 0 := by omega
      have h2 : -(m : Int) < 0 := by omega
      simp only [sg, h1, h2, decide_true, decide_false, Bool.bne_false, Bool.bne_true, if_true, Int.natCast_mul, Int.neg_mul]
  · by_cases hm : m = 0
    · subst hm; simp [sg]
    · by_cases hn : n = 0
      · subst hn; simp [sg]
      · have h1 : -(m : Int) < 0 := by omega
        have h2 : -(n : Int) < 0 := by omega
        simp only [sg, h1, h2, decide_true, bne_self_eq_false, Bool.false_eq_true, if_false, Int.natCast_mul, Int.neg_mul_neg]
theorem Mul_ok {x y : FV} {a b : Int} {j k : Nat} (hx : IsI x a) (hy : IsI y b) (ha : Bd j a) (hb : Bd k b) (hk : j + k ≤ 100000000000) : ret tab.get an 145 [x, y] = some (nInt (a * b)) := by
  have m1 := mag'_ok hx
  have m2 := mag'_ok hy
  have n1 := neg'_ok hx
  have n2 := neg'_ok hy
  have ax := hx.agg
  have ay := hy.agg
  have la := ha.len
  have lb := hb.len
  have da := digs_Dg (b := B32) (by decide) a.natAbs
  have db := digs_Dg (b := B32) (by decide) b.natAbs
  have ht := times_all ((digs B32 a.natAbs).length + (digs B32 b.natAbs).length) .any .any (Nat.le_refl _) (by omega) da db
  rw [val_digs (by decide), val_digs (by decide)] at ht
  have hn : a.natAbs * b.natAbs < 2 ^ (j + k) := by
    have := ha.mul hb
    unfold Bd at this
    rwa [Int.natAbs_mul] at this
  have hm := made_ok (decide (a < 0) != decide (b < 0)) .any (digs_Dg (b := B32) (by decide) (a.natAbs * b.natAbs)) (Nat.le_trans (digs_len_bits (w := 32) (by decide) hn) (by omega))
  rw [val_digs (by decide)] at hm
  have e := sg_mul a b
  rw [e] at hm
  have ag := agg_nInt (a * b)
  refine ret_eq (fn := i145) rfl rfl ?_
  simp -dsimp only [i145]
  simp -dsimp (disch := first | omega | assumption | apply agg_two | apply agg_nInt | apply agg_rInt | (simp only [J1,J2,J3,J4,J5,J6,J7,J8]; omega)) only [i145, ↓i145d0t, i145d0, go_sem,↓reduceIte,reduceCtorEq,Nat.reduceEqDiff,Nat.reduceAdd,Nat.reduceSub,Nat.reduceMul,Nat.reduceLT,Nat.reduceLeDiff,Nat.reduceBEq,Nat.reduceBNe,Int.reduceLT,Int.reduceLE,Int.reduceEq,Int.reduceNeg,Int.reduceAdd,Int.reduceSub,Int.reduceMul,Int.reduceToNat,Int.reducePow,Nat.reducePow, m1, m2, n1, n2, ht, hm]
def blen (n : Nat) : Nat := if n = 0 then 0 else Nat.log2 n + 1
theorem blen_of {n k : Nat} (h1 : 2 ^ k ≤ n) (h2 : n < 2 ^ (k + 1)) : blen n = k + 1 := by
  have h0 : n ≠ 0 := by have := Nat.pow_pos (n := k) (show 0 < 2 by omega); omega
  rw [blen, if_neg h0, (Nat.log2_eq_iff h0).2 ⟨h1, h2⟩]
theorem blen_spec {n : Nat} (h0 : n ≠ 0) : 2 ^ (blen n - 1) ≤ n ∧ n < 2 ^ blen n ∧ 1 ≤ blen n := by
  rw [blen, if_neg h0]
  have := (Nat.log2_eq_iff h0).1 rfl
  exact ⟨by simpa using this.1, this.2, by omega⟩
theorem blen_high {m d r : Nat} (hd : d ≠ 0) (hr : r < 2 ^ m) : blen (r + 2 ^ m * d) = m + blen d := by
  obtain ⟨h1, h2, h3⟩ := blen_spec hd
  have e : m + blen d = (m + blen d - 1) + 1 := by omega
  rw [e]
  apply blen_of
  · have : 2 ^ (m + blen d - 1) = 2 ^ m * 2 ^ (blen d - 1) := by rw [← Nat.pow_add]; congr 1; omega
    rw [this]
    have := Nat.mul_le_mul_left (2 ^ m) h1
    omega
  · have : 2 ^ (m + blen d - 1 + 1) = 2 ^ m * 2 ^ blen d := by rw [← Nat.pow_add]; congr 1; omega
    rw [this]
    have := Nat.mul_le_mul_left (2 ^ m) (show d + 1 ≤ 2 ^ blen d by omega)
    rw [Nat.mul_add] at this
    omega
theorem blen_le {n k : Nat} (h : n < 2 ^ k) : blen n ≤ k := by
  by_cases h0 : n = 0
  · subst h0; simp [blen]
  · obtain ⟨h1, h2, h3⟩ := blen_spec h0
    have : 2 ^ (blen n - 1) < 2 ^ k := by omega
    have := (Nat.pow_lt_pow_iff_right (show 1 < 2 by omega)).1 this
    omega
theorem lenTab : ∀ x : Nat, x < 256 → (i155s0.data.toList[x]?).map (fun b => b.toNat) = some (blen x) := by decide +kernel
theorem lenTab' {x : Nat} (h : x < 256) : ∃ b : UInt8, i155s0[x]? = some b ∧ b.toNat = blen x := by
  have := lenTab x h
  obtain ⟨b, h1, h2⟩ := Option.map_eq_some_iff.1 this
  refine ⟨b, ?_, h2⟩
  rw [Array.getElem?_toList] at h1
  obtain ⟨h3, h4⟩ := Array.getElem?_eq_some_iff.1 h1
  have h5 : x < i155s0.size := h3
  rw [getElem?_pos i155s0 x h5]
  exact congrArg some h4
theorem Len32_ok {n : Nat} (h : n < 4294967296) : ret tab.get an 155 [.int .u32 (n : Int)] = some (.int .i64 (blen n : Nat)) := by
  have sp : ∀ m d : Nat, 0 < n / 2 ^ m → blen n = m + blen (n / 2 ^ m) := by
    intro m d hd
    have := blen_high (m := m) (d := n / 2 ^ m) (r := n % 2 ^ m) (by omega) (Nat.mod_lt _ (Nat.pow_pos (by omega)))
    rwa [Nat.mod_add_div] at this
  refine ret_eq (fn := i155) rfl rfl ?_
  simp -dsimp only [i155]
  by_cases h1 : 65536 ≤ n
  · have e1 := sp 16 0 (by rw [show 2 ^ 16 = 65536 from rfl]; omega)
    rw [show 2 ^ 16 = 65536 from rfl] at e1
    have e2 : blen (n / 65536) ≤ 16 := blen_le (by rw [show 2 ^ 16 = 65536 from rfl]; omega)
    by_cases h2 : 256 ≤ n / 65536
    · have e3 := sp 24 0 (by rw [show 2 ^ 24 = 16777216 from rfl]; omega)
      rw [show 2 ^ 24 = 16777216 from rfl, show n / 16777216 = n / 65536 / 256 by omega] at e3
      obtain ⟨b, e4, e5⟩ := lenTab' (x := n / 65536 / 256) (by omega)
      have e6 : blen (n / 65536 / 256) ≤ 8 := blen_le (by rw [show 2 ^ 8 = 256 from rfl]; omega)
      simp -dsimp (disch := first | omega | assumption | apply agg_two | apply agg_nInt | apply agg_rInt | (simp only [J1,J2,J3,J4,J5,J6,J7,J8]; omega)) only [i155, go_sem,↓reduceIte,reduceCtorEq,Nat.reduceEqDiff,Nat.reduceAdd,Nat.reduceSub,Nat.reduceMul,Nat.reduceLT,Nat.reduceLeDiff,Nat.reduceBEq,Nat.reduceBNe,Int.reduceLT,Int.reduceLE,Int.reduceEq,Int.reduceNeg,Int.reduceAdd,Int.reduceSub,Int.reduceMul,Int.reduceToNat,Int.reducePow,Nat.reducePow, e4]
      exact congrArg (FV.int .i64) (by omega)
    · obtain ⟨b, e4, e5⟩ := lenTab' (x := n / 65536) (by omega)
      simp -dsimp (disch := first | omega | assumption | apply agg_two | apply agg_nInt | apply agg_rInt | (simp only [J1,J2,J3,J4,J5,J6,J7,J8]; omega)) only [i155, go_sem,↓reduceIte,reduceCtorEq,Nat.reduceEqDiff,Nat.reduceAdd,Nat.reduceSub,Nat.reduceMul,Nat.reduceLT,Nat.reduceLeDiff,Nat.reduceBEq,Nat.reduceBNe,Int.reduceLT,Int.reduceLE,Int.reduceEq,Int.reduceNeg,Int.reduceAdd,Int.reduceSub,Int.reduceMul,Int.reduceToNat,Int.reducePow,Nat.reducePow, e4]
      exact congrArg (FV.int .i64) (by omega)
  · by_cases h2 : 256 ≤ n
    · have e3 := sp 8 0 (by rw [show 2 ^ 8 = 256 from rfl]; omega)
      rw [show 2 ^ 8 = 256 from rfl] at e3
      obtain ⟨b, e4, e5⟩ := lenTab' (x := n / 256) (by omega)
      have e6 : blen (n / 256) ≤ 8 := blen_le (by rw [show 2 ^ 8 = 256 from rfl]; omega)
      simp -dsimp (disch := first | omega | assumption | apply agg_two | apply agg_nInt | apply agg_rInt | (simp only [J1,J2,J3,J4,J5,J6,J7,J8]; omega)) only [i155, go_sem,↓reduceIte,reduceCtorEq,Nat.reduceEqDiff,Nat.reduceAdd,Nat.reduceSub,Nat.reduceMul,Nat.reduceLT,Nat.reduceLeDiff,Nat.reduceBEq,Nat.reduceBNe,Int.reduceLT,Int.reduceLE,Int.reduceEq,Int.reduceNeg,Int.reduceAdd,Int.reduceSub,Int.reduceMul,Int.reduceToNat,Int.reducePow,Nat.reducePow, e4]
      exact congrArg (FV.int .i64) (by omega)
    · obtain ⟨b, e4, e5⟩ := lenTab' (x := n) (by omega)
      have e6 : blen n ≤ 8 := blen_le (by rw [show 2 ^ 8 = 256 from rfl]; omega)
      simp -dsimp (disch := first | omega | assumption | apply agg_two | apply agg_nInt | apply agg_rInt | (simp only [J1,J2,J3,J4,J5,J6,J7,J8]; omega)) only [i155, go_sem,↓reduceIte,reduceCtorEq,Nat.reduceEqDiff,Nat.reduceAdd,Nat.reduceSub,Nat.reduceMul,Nat.reduceLT,Nat.reduceLeDiff,Nat.reduceBEq,Nat.reduceBNe,Int.reduceLT,Int.reduceLE,Int.reduceEq,Int.reduceNeg,Int.reduceAdd,Int.reduceSub,Int.reduceMul,Int.reduceToNat,Int.reducePow,Nat.reducePow, e4]
      exact congrArg (FV.int .i64) (by omega)
theorem digs_top {b n : Nat} (hb : 2 ≤ b) (h0 : n ≠ 0) : n = val b ((digs b n).take ((digs b n).length - 1)) + b ^ ((digs b n).length - 1) * at0 (digs b n) ((digs b n).length - 1) ∧ at0 (digs b n) ((digs b n).length - 1) ≠ 0 := by
  have hp : 0 < (digs b n).length := by
    rcases Nat.eq_zero_or_pos (digs b n).length with h | h
    · rw [digs_len0 hb] at h; omega
    · exact h
  have h1 := val_take_le (b := b) ((digs b n).length - 1) (digs b n)
  rw [Nat.sub_add_cancel hp, List.take_length, val_digs hb] at h1
  refine ⟨h1, ?_⟩
  refine digs_last hb n _ ?_
  rw [List.getLast?_eq_getElem?, get0 (by omega)]
theorem Bits_ok {x : FV} {a : Int} {k : Nat} (hx : IsI x a) (ha : Bd k a) (hk : Fair k) : ret tab.get an 119 [x] = some (.int .i64 (blen a.natAbs : Nat)) := by
  have m1 := mag'_ok hx
  have ax := hx.agg
  have la := ha.len
  refine ret_eq (fn := i119) rfl rfl ?_
  simp -dsimp only [i119]
  by_cases h0 : a.natAbs = 0
  · have : (digs B32 a.natAbs).length = 0 := (digs_len0 (by decide)).2 h0
    simp -dsimp (disch := first | omega | assumption | apply agg_two | apply agg_nInt | apply agg_rInt | (simp only [J1,J2,J3,J4,J5,J6,J7,J8]; omega)) only [i119, go_sem,↓reduceIte,reduceCtorEq,Nat.reduceEqDiff,Nat.reduceAdd,Nat.reduceSub,Nat.reduceMul,Nat.reduceLT,Nat.reduceLeDiff,Nat.reduceBEq,Nat.reduceBNe,Int.reduceLT,Int.reduceLE,Int.reduceEq,Int.reduceNeg,Int.reduceAdd,Int.reduceSub,Int.reduceMul,Int.reduceToNat,Int.reducePow,Nat.reducePow, m1]
    rw [h0]; rfl
  · have hp : 0 < (digs B32 a.natAbs).length := by
      rcases Nat.eq_zero_or_pos (digs B32 a.natAbs).length with h | h
      · rw [digs_len0 (by decide)] at h; omega
      · exact h
    obtain ⟨e1, e2⟩ := digs_top (b := B32) (by decide) h0
    have d := digs_Dg (b := B32) (by decide) a.natAbs
    have b1 : at0 (digs B32 a.natAbs) ((digs B32 a.natAbs).length - 1) < 4294967296 := at0_lt d (by decide) _
    have h1 := val_lt (d.take ((digs B32 a.natAbs).length - 1))
    rw [List.length_take, Nat.min_eq_left (by omega), show B32 = 2 ^ 32 from rfl, ← Nat.pow_mul] at h1
    have h2 := blen_high (m := 32 * ((digs B32 a.natAbs).length - 1)) e2 h1
    have h3 := Len32_ok b1
    have h5 : blen (at0 (digs B32 a.natAbs) ((digs B32 a.natAbs).length - 1)) ≤ 32 := blen_le b1
    rw [show (2 : Nat) ^ (32 * ((digs B32 a.natAbs).length - 1)) = B32 ^ ((digs B32 a.natAbs).length - 1) by rw [Nat.pow_mul], show (2 : Nat) ^ 32 = B32 from rfl, ← e1] at h2
    simp -dsimp (disch := first | omega | assumption | apply agg_two | apply agg_nInt | apply agg_rInt | (simp only [J1,J2,J3,J4,J5,J6,J7,J8]; omega)) only [i119, go_sem,↓reduceIte,reduceCtorEq,Nat.reduceEqDiff,Nat.reduceAdd,Nat.reduceSub,Nat.reduceMul,Nat.reduceLT,Nat.reduceLeDiff,Nat.reduceBEq,Nat.reduceBNe,Int.reduceLT,Int.reduceLE,Int.reduceEq,Int.reduceNeg,Int.reduceAdd,Int.reduceSub,Int.reduceMul,Int.reduceToNat,Int.reducePow,Nat.reducePow, m1, h3]
    exact congrArg (FV.int .i64) (by omega)
end Go.Proofs.YtklelbidjcealaaGreat
namespace Go.Proofs.YtklelbidjcealaaGreat
open Go Go.Ab
abbrev B16 : Nat := 65536
def rInt (z : Int) : FV := .agg [.bool (decide (z < 0)), .sl .full (i64s (digs B16 z.natAbs))]
def IsR (x : FV) (z : Int) : Prop := ∃ t, x = .agg [.bool (decide (z < 0)), .sl t (i64s (digs B16 z.natAbs))]
theorem accS_e {xs : List Nat} {k : Nat} (h : xs = []) : accS 1 k (i64s xs) = .fv (.sl .nil []) := by subst h; rfl
theorem accL_e {xs : List Nat} (h : xs = []) : accL 1 (i64s xs) = [] := by subst h; rfl
theorem rInt_R (z : Int) : IsR (rInt z) z := ⟨_, rfl⟩
theorem agg_rInt (z : Int) : Agg 2 (rInt z) := agg_two _ _
theorem IsR.agg {x : FV} {z : Int} (h : IsR x z) : Agg 2 x := by obtain ⟨t, rfl⟩ := h; exact agg_two _ _
theorem rInt_sg (b : Bool) {n : Nat} (h : n ≠ 0) : rInt (sg b n) = .agg [.bool b, .sl .full (i64s (digs B16 n))] := by
  have h2 : decide (sg b n < 0) = b := by cases b <;> simp [sg] <;> omega
  simp [rInt, h2, sg_abs]
theorem rInt_sg0 (b : Bool) : rInt (sg b 0) = .agg [.bool false, .sl .full []] := by
  cases b <;> simp [rInt, sg, digs_zero]
theorem rtrim_ok (b : Bool) (t : Tag) {xs : List Nat} (hd : Dg B16 xs) (hl : Small xs.length) : ret tab.get an 79 [.bool b, .sl t (i64s xs)] = some (rInt (sg b (val B16 xs))) := by
  refine ret_eq (fn := i79) rfl rfl ?_
  simp -dsimp only [i79]
  simp -dsimp (disch := first | omega | assumption | apply agg_two | apply agg_nInt | apply agg_rInt | (simp only [J1,J2,J3,J4,J5,J6,J7,J8]; omega)) only [i79, go_sem,↓reduceIte,reduceCtorEq,Nat.reduceEqDiff,Nat.reduceAdd,Nat.reduceSub,Nat.reduceMul,Nat.reduceLT,Nat.reduceLeDiff,Nat.reduceBEq,Nat.reduceBNe,Int.reduceLT,Int.reduceLE,Int.reduceEq,Int.reduceNeg,Int.reduceAdd,Int.reduceSub,Int.reduceMul,Int.reduceToNat,Int.reducePow,Nat.reducePow]
  refine pW_loop (fun n : Nat => ⟨[(0, .fv (.bool b)), (1, .fv (.sl t (i64s xs))), (4, .ptr (.l 0) 2 0 0), (5, .fv (.int .i64 n))], [], [.own 2 [.agg [.bool false, .sl .nil []]]]⟩) (fun n => n ≤ xs.length ∧ ∀ x ∈ xs.drop n, x = 0) id xs.length (by simp -dsimp (disch := first | omega | assumption | apply agg_two | apply agg_nInt | apply agg_rInt | (simp only [J1,J2,J3,J4,J5,J6,J7,J8]; omega)) only [go_sem,↓reduceIte,reduceCtorEq,Nat.reduceEqDiff,Nat.reduceAdd,Nat.reduceSub,Nat.reduceMul,Nat.reduceLT,Nat.reduceLeDiff,Nat.reduceBEq,Nat.reduceBNe,Int.reduceLT,Int.reduceLE,Int.reduceEq,Int.reduceNeg,Int.reduceAdd,Int.reduceSub,Int.reduceMul,Int.reduceToNat,Int.reducePow,Nat.reducePow]) (by simp) ?_
  intro n ⟨hn, h0⟩
  have fin : (n = 0 ∨ ∃ v, xs[n - 1]? = some v ∧ v ≠ 0) → (xs.take n) = digs B16 (val B16 xs) := fun h => take_digs (by decide) hd hn h0 h
  rcases Nat.eq_zero_or_pos n with rfl | hp
  · have h1 := fin (.inl rfl)
    have h2 : val B16 xs = 0 := (digs_nil (by decide)).1 h1.symm
    cases b
    · simp -dsimp only [i79b0]
      simp -dsimp (disch := first | omega | assumption | apply agg_two | apply agg_nInt | apply agg_rInt | (simp only [J1,J2,J3,J4,J5,J6,J7,J8]; omega)) only [i79, go_sem,↓reduceIte,reduceCtorEq,Nat.reduceEqDiff,Nat.reduceAdd,Nat.reduceSub,Nat.reduceMul,Nat.reduceLT,Nat.reduceLeDiff,Nat.reduceBEq,Nat.reduceBNe,Int.reduceLT,Int.reduceLE,Int.reduceEq,Int.reduceNeg,Int.reduceAdd,Int.reduceSub,Int.reduceMul,Int.reduceToNat,Int.reducePow,Nat.reducePow]
      rw [h2, rInt_sg0]
    · simp -dsimp only [i79b0]
      simp -dsimp (disch := first | omega | assumption | apply agg_two | apply agg_nInt | apply agg_rInt | (simp only [J1,J2,J3,J4,J5,J6,J7,J8]; omega)) only [i79, go_sem,↓reduceIte,reduceCtorEq,Nat.reduceEqDiff,Nat.reduceAdd,Nat.reduceSub,Nat.reduceMul,Nat.reduceLT,Nat.reduceLeDiff,Nat.reduceBEq,Nat.reduceBNe,Int.reduceLT,Int.reduceLE,Int.reduceEq,Int.reduceNeg,Int.reduceAdd,Int.reduceSub,Int.reduceMul,Int.reduceToNat,Int.reducePow,Nat.reducePow]
      rw [h2, rInt_sg0]
  · obtain ⟨m, rfl⟩ : ∃ m, n = m + 1 := ⟨n - 1, by omega⟩
    by_cases hv0 : at0 xs m = 0
    · simp -dsimp only [i79b0]
      simp -dsimp (disch := first | omega | assumption | apply agg_two | apply agg_nInt | apply agg_rInt | (simp only [J1,J2,J3,J4,J5,J6,J7,J8]; omega)) only [i79, go_sem,↓reduceIte,reduceCtorEq,Nat.reduceEqDiff,Nat.reduceAdd,Nat.reduceSub,Nat.reduceMul,Nat.reduceLT,Nat.reduceLeDiff,Nat.reduceBEq,Nat.reduceBNe,Int.reduceLT,Int.reduceLE,Int.reduceEq,Int.reduceNeg,Int.reduceAdd,Int.reduceSub,Int.reduceMul,Int.reduceToNat,Int.reducePow,Nat.reducePow]
      refine next ⟨m, rfl, ⟨by omega, fun x hx => ?_⟩, by simp⟩
      rw [List.drop_eq_getElem_cons (by omega)] at hx
      rcases List.mem_cons.1 hx with rfl | hx
      · rw [← hv0]; simp [at0, show m < xs.length by omega]
      · exact h0 x hx
    · have h1 := fin (.inr ⟨at0 xs m, get0 (by omega), hv0⟩)
      have h2 : val B16 xs ≠ 0 := by
        intro h
        rw [h, digs_zero] at h1
        have := congrArg List.length h1
        rw [List.length_take, List.length_nil] at this; omega
      cases b
      · simp -dsimp only [i79b0]
        simp -dsimp (disch := first | omega | assumption | apply agg_two | apply agg_nInt | apply agg_rInt | (simp only [J1,J2,J3,J4,J5,J6,J7,J8]; omega)) only [i79, go_sem,↓reduceIte,reduceCtorEq,Nat.reduceEqDiff,Nat.reduceAdd,Nat.reduceSub,Nat.reduceMul,Nat.reduceLT,Nat.reduceLeDiff,Nat.reduceBEq,Nat.reduceBNe,Int.reduceLT,Int.reduceLE,Int.reduceEq,Int.reduceNeg,Int.reduceAdd,Int.reduceSub,Int.reduceMul,Int.reduceToNat,Int.reducePow,Nat.reducePow]
        rw [rInt_sg _ h2, ← h1]
      · simp -dsimp only [i79b0]
        simp -dsimp (disch := first | omega | assumption | apply agg_two | apply agg_nInt | apply agg_rInt | (simp only [J1,J2,J3,J4,J5,J6,J7,J8]; omega)) only [i79, go_sem,↓reduceIte,reduceCtorEq,Nat.reduceEqDiff,Nat.reduceAdd,Nat.reduceSub,Nat.reduceMul,Nat.reduceLT,Nat.reduceLeDiff,Nat.reduceBEq,Nat.reduceBNe,Int.reduceLT,Int.reduceLE,Int.reduceEq,Int.reduceNeg,Int.reduceAdd,Int.reduceSub,Int.reduceMul,Int.reduceToNat,Int.reducePow,Nat.reducePow]
        rw [rInt_sg _ h2, ← h1]
theorem From_ok {x : FV} {z : Int} (h : IsI x z) (hs : ∀ b t xs, x = .agg [.bool b, .sl t (u32s xs)] → xs.length ≤ 100000000000) : ret tab.get an 43 [x] = some (rInt z) := by
  obtain ⟨b, t, xs, rfl, hd, hl, rfl⟩ := h
  have hs := hs b t xs rfl
  have ag := agg_rInt (sg b (val B32 xs))
  refine ret_eq (fn := i43) rfl rfl ?_
  simp -dsimp only [i43]
  simp -dsimp (disch := first | omega | assumption | apply agg_two | apply agg_nInt | apply agg_rInt | (simp only [J1,J2,J3,J4,J5,J6,J7,J8]; omega)) only [i43, ↓i43d0t, i43d0, go_sem,↓reduceIte,reduceCtorEq,Nat.reduceEqDiff,Nat.reduceAdd,Nat.reduceSub,Nat.reduceMul,Nat.reduceLT,Nat.reduceLeDiff,Nat.reduceBEq,Nat.reduceBNe,Int.reduceLT,Int.reduceLE,Int.reduceEq,Int.reduceNeg,Int.reduceAdd,Int.reduceSub,Int.reduceMul,Int.reduceToNat,Int.reducePow,Nat.reducePow]
  refine pW_loop (fun n : Nat => ⟨[(1, .ptr (.l 0) 2 0 0), (2, .ptr (.l 1) 2 0 0), (3, accS 1 2 (i64s (cut16 (xs.take n)))), (4, .fv (.int .i64 n))], [], [.own 2 [.agg [.bool b, .sl t (u32s xs)]], .own 2 [.agg [.bool false, .sl .nil []]]] ++ accL 1 (i64s (cut16 (xs.take n)))⟩) (fun n => n ≤ xs.length) (fun n => xs.length - n) 0 (by simp -dsimp (disch := first | omega | assumption | apply agg_two | apply agg_nInt | apply agg_rInt | (simp only [J1,J2,J3,J4,J5,J6,J7,J8]; omega)) only [go_sem,↓reduceIte,reduceCtorEq,Nat.reduceEqDiff,Nat.reduceAdd,Nat.reduceSub,Nat.reduceMul,Nat.reduceLT,Nat.reduceLeDiff,Nat.reduceBEq,Nat.reduceBNe,Int.reduceLT,Int.reduceLE,Int.reduceEq,Int.reduceNeg,Int.reduceAdd,Int.reduceSub,Int.reduceMul,Int.reduceToNat,Int.reducePow,Nat.reducePow, cut16]) (by simp) ?_
  intro n hn
  have hne : 0 < n → cut16 (xs.take n) ≠ [] := by
    intro h h'
    have := congrArg List.length h'
    rw [cut16_len, List.length_take] at this
    simp at this; omega
  by_cases hi : n < xs.length
  · have b1 : at0 xs n < 4294967296 := at0_lt hd (by decide) n
    have hl2 := cut16_len (xs.take n)
    rw [List.length_take, Nat.min_eq_left (by omega)] at hl2
    have e1 := cut16_snoc (xs.take n) (at0 xs n)
    rw [← take_snoc hi] at e1
    have h1 := hne
    rcases Nat.eq_zero_or_pos n with rfl | hp
    · simp -dsimp only [i43b0]
      simp -dsimp (disch := first | omega | assumption | apply agg_two | apply agg_nInt | apply agg_rInt | (simp only [J1,J2,J3,J4,J5,J6,J7,J8]; omega)) only [i43, ↓i43d0t, i43d0, go_sem,↓reduceIte,reduceCtorEq,Nat.reduceEqDiff,Nat.reduceAdd,Nat.reduceSub,Nat.reduceMul,Nat.reduceLT,Nat.reduceLeDiff,Nat.reduceBEq,Nat.reduceBNe,Int.reduceLT,Int.reduceLE,Int.reduceEq,Int.reduceNeg,Int.reduceAdd,Int.reduceSub,Int.reduceMul,Int.reduceToNat,Int.reducePow,Nat.reducePow, List.take_zero, cut16]
      refine next ⟨1, ?_, by omega, by omega⟩
      rw [e1, show cut16 (List.take 0 xs) = [] from rfl, List.nil_append, accS_ne (by simp), accL_ne (by simp)]
      rfl
    · have h2 := i64s_ne (hne hp)
      have h3 := accS_ne (sz := 1) (k := 2) h2
      have h4 := accL_ne (sz := 1) h2
      simp -dsimp only [i43b0]
      simp -dsimp (disch := first | omega | assumption | apply agg_two | apply agg_nInt | apply agg_rInt | (simp only [J1,J2,J3,J4,J5,J6,J7,J8]; omega)) only [i43, ↓i43d0t, i43d0, go_sem,↓reduceIte,reduceCtorEq,Nat.reduceEqDiff,Nat.reduceAdd,Nat.reduceSub,Nat.reduceMul,Nat.reduceLT,Nat.reduceLeDiff,Nat.reduceBEq,Nat.reduceBNe,Int.reduceLT,Int.reduceLE,Int.reduceEq,Int.reduceNeg,Int.reduceAdd,Int.reduceSub,Int.reduceMul,Int.reduceToNat,Int.reducePow,Nat.reducePow, h3, h4]
      refine next ⟨n + 1, ?_, by omega, by omega⟩
      rw [e1, accS_ne (by simp), accL_ne (by simp)]
      simp
  · have he : n = xs.length := by omega
    subst he
    have ht := fun t => rtrim_ok b t (cut16_Dg hd) (by rw [cut16_len]; omega)
    rw [cut16_val] at ht
    rw [List.take_length]
    rw [List.take_length] at hne
    rcases Nat.eq_zero_or_pos xs.length with h0 | hp
    · have : xs = [] := List.eq_nil_of_length_eq_zero h0
      subst this
      have ht : ret tab.get an 79 [.bool b, .sl .nil []] = some (rInt (sg b (val B32 []))) := ht .nil
      simp -dsimp only [i43b0]
      simp -dsimp (disch := first | omega | assumption | apply agg_two | apply agg_nInt | apply agg_rInt | (simp only [J1,J2,J3,J4,J5,J6,J7,J8]; omega)) only [i43, ↓i43d0t, i43d0, go_sem,↓reduceIte,reduceCtorEq,Nat.reduceEqDiff,Nat.reduceAdd,Nat.reduceSub,Nat.reduceMul,Nat.reduceLT,Nat.reduceLeDiff,Nat.reduceBEq,Nat.reduceBNe,Int.reduceLT,Int.reduceLE,Int.reduceEq,Int.reduceNeg,Int.reduceAdd,Int.reduceSub,Int.reduceMul,Int.reduceToNat,Int.reducePow,Nat.reducePow, ht, cut16, List.map_nil]
    · have h2 := i64s_ne (hne hp)
      have h3 := accS_ne (sz := 1) (k := 2) h2
      have h4 := accL_ne (sz := 1) h2
      have ht := ht .any
      simp -dsimp only [i43b0]
      simp -dsimp (disch := first | omega | assumption | apply agg_two | apply agg_nInt | apply agg_rInt | (simp only [J1,J2,J3,J4,J5,J6,J7,J8]; omega)) only [i43, ↓i43d0t, i43d0, go_sem,↓reduceIte,reduceCtorEq,Nat.reduceEqDiff,Nat.reduceAdd,Nat.reduceSub,Nat.reduceMul,Nat.reduceLT,Nat.reduceLeDiff,Nat.reduceBEq,Nat.reduceBNe,Int.reduceLT,Int.reduceLE,Int.reduceEq,Int.reduceNeg,Int.reduceAdd,Int.reduceSub,Int.reduceMul,Int.reduceToNat,Int.reducePow,Nat.reducePow, h3, h4, ht]
end Go.Proofs.YtklelbidjcealaaGreat
namespace Go.Proofs.YtklelbidjcealaaGreat
open Go Go.Ab
theorem To_ok {x : FV} {z : Int} {k : Nat} (h : IsR x z) (hz : Bd k z) (hk : Fair k) : ret tab.get an 45 [x] = some (nInt z) := by
  obtain ⟨t, rfl⟩ := h
  have dd := digs_Dg (b := B16) (by decide) z.natAbs
  have ln := digs_len_bits (w := 16) (by decide) hz
  have jd := join16_digs z.natAbs
  have hnil : digs B16 z.natAbs = [] ↔ z = 0 := by rw [digs_nil (by decide)]; omega
  refine ret_eq (fn := i45) rfl rfl ?_
  simp -dsimp only [i45]
  generalize hD : digs B16 z.natAbs = ds at *
  generalize hb : decide (z < 0) = b
  have fin : nInt z = .agg [.bool b, .sl (accT (u32s (join16 ds))) (u32s (join16 ds))] := by
    rw [nInt, hb, jd, nTag]
    by_cases h0 : z = 0
    · subst h0; simp [digs_zero, accT]
    · have : digs B32 z.natAbs ≠ [] := by rw [Ne, digs_nil (by decide)]; omega
      rw [accT_ne (u32s_ne this), if_neg h0]
  simp -dsimp (disch := first | omega | assumption | apply agg_two | apply agg_nInt | apply agg_rInt | (simp only [J1,J2,J3,J4,J5,J6,J7,J8]; omega)) only [i45, go_sem,↓reduceIte,reduceCtorEq,Nat.reduceEqDiff,Nat.reduceAdd,Nat.reduceSub,Nat.reduceMul,Nat.reduceLT,Nat.reduceLeDiff,Nat.reduceBEq,Nat.reduceBNe,Int.reduceLT,Int.reduceLE,Int.reduceEq,Int.reduceNeg,Int.reduceAdd,Int.reduceSub,Int.reduceMul,Int.reduceToNat,Int.reducePow,Nat.reducePow]
  refine pW_loop (fun n : Nat => ⟨[(1, .ptr (.l 0) 2 0 0), (2, .ptr (.l 1) 2 0 0), (3, accS 1 2 (u32s (join16 (ds.take (2 * n))))), (4, .fv (.int .i64 ((2 * n : Nat) : Int)))], [], [.own 2 [.agg [.bool b, .sl t (i64s ds)]], .own 2 [.agg [.bool false, .sl .nil []]]] ++ accL 1 (u32s (join16 (ds.take (2 * n))))⟩) (fun n => 2 * n ≤ ds.length + 1) (fun n => ds.length + 1 - 2 * n) 0 (by simp -dsimp (disch := first | omega | assumption | apply agg_two | apply agg_nInt | apply agg_rInt | (simp only [J1,J2,J3,J4,J5,J6,J7,J8]; omega)) only [go_sem,↓reduceIte,reduceCtorEq,Nat.reduceEqDiff,Nat.reduceAdd,Nat.reduceSub,Nat.reduceMul,Nat.reduceLT,Nat.reduceLeDiff,Nat.reduceBEq,Nat.reduceBNe,Int.reduceLT,Int.reduceLE,Int.reduceEq,Int.reduceNeg,Int.reduceAdd,Int.reduceSub,Int.reduceMul,Int.reduceToNat,Int.reducePow,Nat.reducePow, join16]) (by omega) ?_
  intro n hn
  have hl2 : ∀ m, 2 * m ≤ ds.length + 1 → (join16 (ds.take (2 * m))).length = m := fun m hm => join16_len m _ (by rw [List.length_take]; omega)
  have hne : ∀ m, 0 < m → 2 * m ≤ ds.length + 1 → u32s (join16 (ds.take (2 * m))) ≠ [] := by
    intro m hm h2 h'
    have := congrArg List.length h'
    rw [List.length_map, hl2 m h2] at this
    simp at this; omega
  by_cases hi : 2 * n < ds.length
  · have b1 : at0 ds (2 * n) < 65536 := at0_lt dd (by decide) _
    have b2 : at0 ds (2 * n + 1) < 65536 := at0_lt dd (by decide) _
    have e0 := hl2 n (by omega)
    have e1 : join16 (ds.take (2 * (n + 1))) = join16 (ds.take (2 * n)) ++ [at0 ds (2 * n) + at0 ds (2 * n + 1) * 65536] := by
      by_cases h1 : 2 * n + 1 < ds.length
      · rw [show 2 * (n + 1) = 2 * n + 2 by omega, take_two h1, join16_app n _ _ (by rw [List.length_take]; omega)]; rfl
      · rw [show 2 * (n + 1) = (2 * n + 1) + 1 by omega, List.take_of_length_le (by omega), at0_out (by omega : ds.length ≤ 2 * n + 1)]
        have : ds = ds.take (2 * n) ++ [at0 ds (2 * n)] := by
          rw [← take_snoc hi, List.take_of_length_le (by omega)]
        conv => lhs; rw [this, join16_app n _ _ (by rw [List.length_take]; omega)]
        simp [join16]
    have fin2 : accS 1 2 (u32s (join16 (ds.take (2 * (n + 1))))) = .ref (.l 2) 1 0 (n + 1) true := by
      rw [accS_ne (hne _ (by omega) (by omega)), List.length_map, hl2 _ (by omega)]
    have fin3 : ∀ v, v = at0 ds (2 * n) + at0 ds (2 * n + 1) * 65536 → accL 1 (u32s (join16 (ds.take (2 * (n + 1))))) = [.own 1 (u32s (join16 (ds.take (2 * n)) ++ [v]))] := by
      intro v hv
      rw [accL_ne (hne (n + 1) (by omega) (by omega)), e1, hv]
    by_cases h1 : 2 * n + 1 < ds.length
    · rcases Nat.eq_zero_or_pos n with rfl | hp
      · simp -dsimp only [i45b0]
        simp -dsimp (disch := first | omega | assumption | apply agg_two | apply agg_nInt | apply agg_rInt | (simp only [J1,J2,J3,J4,J5,J6,J7,J8]; omega)) only [i45, go_sem,↓reduceIte,reduceCtorEq,Nat.reduceEqDiff,Nat.reduceAdd,Nat.reduceSub,Nat.reduceMul,Nat.reduceLT,Nat.reduceLeDiff,Nat.reduceBEq,Nat.reduceBNe,Int.reduceLT,Int.reduceLE,Int.reduceEq,Int.reduceNeg,Int.reduceAdd,Int.reduceSub,Int.reduceMul,Int.reduceToNat,Int.reducePow,Nat.reducePow, join16]
        refine next ⟨1, ?_, by omega, by omega⟩
        simp only [Nat.mul_zero, Nat.zero_add] at b1 b2
        rw [fin2, fin3 _ rfl]
        simp [join16]; omega
      · have h3 := accS_ne (sz := 1) (k := 2) (hne n hp (by omega))
        have h4 := accL_ne (sz := 1) (hne n hp (by omega))
        simp -dsimp only [i45b0]
        simp -dsimp (disch := first | omega | assumption | apply agg_two | apply agg_nInt | apply agg_rInt | (simp only [J1,J2,J3,J4,J5,J6,J7,J8]; omega)) only [i45, go_sem,↓reduceIte,reduceCtorEq,Nat.reduceEqDiff,Nat.reduceAdd,Nat.reduceSub,Nat.reduceMul,Nat.reduceLT,Nat.reduceLeDiff,Nat.reduceBEq,Nat.reduceBNe,Int.reduceLT,Int.reduceLE,Int.reduceEq,Int.reduceNeg,Int.reduceAdd,Int.reduceSub,Int.reduceMul,Int.reduceToNat,Int.reducePow,Nat.reducePow, h3, h4, e0]
        refine next ⟨n + 1, ?_, by omega, by omega⟩
        rw [fin2, fin3 _ rfl]
        simp; omega
    · have z1 : at0 ds (2 * n + 1) = 0 := at0_out (by omega)
      rcases Nat.eq_zero_or_pos n with rfl | hp
      · simp -dsimp only [i45b0]
        simp -dsimp (disch := first | omega | assumption | apply agg_two | apply agg_nInt | apply agg_rInt | (simp only [J1,J2,J3,J4,J5,J6,J7,J8]; omega)) only [i45, go_sem,↓reduceIte,reduceCtorEq,Nat.reduceEqDiff,Nat.reduceAdd,Nat.reduceSub,Nat.reduceMul,Nat.reduceLT,Nat.reduceLeDiff,Nat.reduceBEq,Nat.reduceBNe,Int.reduceLT,Int.reduceLE,Int.reduceEq,Int.reduceNeg,Int.reduceAdd,Int.reduceSub,Int.reduceMul,Int.reduceToNat,Int.reducePow,Nat.reducePow, join16]
        refine next ⟨1, ?_, by omega, by omega⟩
        simp only [Nat.mul_zero, Nat.zero_add] at b1 z1
        rw [fin2, fin3 _ rfl]
        simp [join16, z1]; omega
      · have h3 := accS_ne (sz := 1) (k := 2) (hne n hp (by omega))
        have h4 := accL_ne (sz := 1) (hne n hp (by omega))
        simp -dsimp only [i45b0]
        simp -dsimp (disch := first | omega | assumption | apply agg_two | apply agg_nInt | apply agg_rInt | (simp only [J1,J2,J3,J4,J5,J6,J7,J8]; omega)) only [i45, go_sem,↓reduceIte,reduceCtorEq,Nat.reduceEqDiff,Nat.reduceAdd,Nat.reduceSub,Nat.reduceMul,Nat.reduceLT,Nat.reduceLeDiff,Nat.reduceBEq,Nat.reduceBNe,Int.reduceLT,Int.reduceLE,Int.reduceEq,Int.reduceNeg,Int.reduceAdd,Int.reduceSub,Int.reduceMul,Int.reduceToNat,Int.reducePow,Nat.reducePow, h3, h4, e0]
        refine next ⟨n + 1, ?_, by omega, by omega⟩
        rw [fin2, fin3 _ rfl]
        simp [z1]; omega
  · have hall : ds.take (2 * n) = ds := List.take_of_length_le (by omega)
    rcases Nat.eq_zero_or_pos n with rfl | hp
    · have : ds = [] := List.eq_nil_of_length_eq_zero (by omega)
      subst this
      simp -dsimp only [i45b0]
      simp -dsimp (disch := first | omega | assumption | apply agg_two | apply agg_nInt | apply agg_rInt | (simp only [J1,J2,J3,J4,J5,J6,J7,J8]; omega)) only [i45, go_sem,↓reduceIte,reduceCtorEq,Nat.reduceEqDiff,Nat.reduceAdd,Nat.reduceSub,Nat.reduceMul,Nat.reduceLT,Nat.reduceLeDiff,Nat.reduceBEq,Nat.reduceBNe,Int.reduceLT,Int.reduceLE,Int.reduceEq,Int.reduceNeg,Int.reduceAdd,Int.reduceSub,Int.reduceMul,Int.reduceToNat,Int.reducePow,Nat.reducePow, join16]
      rw [fin]; rfl
    · have h5 := hne n hp (by omega)
      have h3 := accS_ne (sz := 1) (k := 2) h5
      have h4 := accL_ne (sz := 1) h5
      have e0 := hl2 n (by omega)
      rw [hall] at h3 h4 h5 e0
      simp -dsimp only [i45b0]
      simp -dsimp (disch := first | omega | assumption | apply agg_two | apply agg_nInt | apply agg_rInt | (simp only [J1,J2,J3,J4,J5,J6,J7,J8]; omega)) only [i45, go_sem,↓reduceIte,reduceCtorEq,Nat.reduceEqDiff,Nat.reduceAdd,Nat.reduceSub,Nat.reduceMul,Nat.reduceLT,Nat.reduceLeDiff,Nat.reduceBEq,Nat.reduceBNe,Int.reduceLT,Int.reduceLE,Int.reduceEq,Int.reduceNeg,Int.reduceAdd,Int.reduceSub,Int.reduceMul,Int.reduceToNat,Int.reducePow,Nat.reducePow, hall, h3, h4, e0]
      rw [fin, accT_ne h5]
theorem digs_step {b m : Nat} (hb : 2 ≤ b) (hm : m ≠ 0) : digs b m = m % b :: digs b (m / b) := digs_pos hb (by omega)
theorem ROf_ok {n : Int} (h1 : -9223372036854775808 ≤ n) (h2 : n ≤ 9223372036854775807) : ret tab.get an 22 [.int .i64 n] = some (rInt n) := by
  have ag := agg_rInt n
  have dlen : (digs B16 n.natAbs).length ≤ 64 := digs_len_bits (w := 16) (by decide) (show n.natAbs < 2 ^ 64 by rw [show 2 ^ 64 = 18446744073709551616 from rfl]; omega)
  have fin : ∀ t, ret tab.get an 79 [.bool (decide (n < 0)), .sl t (i64s (digs B16 n.natAbs))] = some (rInt n) := by
    intro t
    have := rtrim_ok (decide (n < 0)) t (digs_Dg (b := B16) (by decide) n.natAbs) (by omega)
    rw [val_digs (by decide), show sg (decide (n < 0)) n.natAbs = n by by_cases h : n < 0 <;> simp [sg, h] <;> omega] at this
    exact this
  refine ret_eq (fn := i22) rfl rfl ?_
  simp -dsimp only [i22]
  simp -dsimp (disch := first | omega | assumption | apply agg_two | apply agg_nInt | apply agg_rInt | (simp only [J1,J2,J3,J4,J5,J6,J7,J8]; omega)) only [i22, go_sem,↓reduceIte,reduceCtorEq,Nat.reduceEqDiff,Nat.reduceAdd,Nat.reduceSub,Nat.reduceMul,Nat.reduceLT,Nat.reduceLeDiff,Nat.reduceBEq,Nat.reduceBNe,Int.reduceLT,Int.reduceLE,Int.reduceEq,Int.reduceNeg,Int.reduceAdd,Int.reduceSub,Int.reduceMul,Int.reduceToNat,Int.reducePow,Nat.reducePow]
  refine pW_loop (fun a : List Nat × Nat => ⟨[(0, .fv (.int .i64 (sg (decide (n < 0)) a.2))), (2, .ptr (.l 0) 2 0 0), (3, .fv (.bool (decide (n < 0)))), (4, accS 1 1 (i64s a.1))], [], [.own 2 [.agg [.bool false, .sl .nil []]]] ++ accL 1 (i64s a.1)⟩)
    (fun a => digs B16 n.natAbs = a.1 ++ digs B16 a.2 ∧ a.2 ≤ n.natAbs) (fun a => a.2) ([], n.natAbs) (by simp -dsimp (disch := first | omega | assumption | apply agg_two | apply agg_nInt | apply agg_rInt | (simp only [J1,J2,J3,J4,J5,J6,J7,J8]; omega)) only [go_sem,↓reduceIte,reduceCtorEq,Nat.reduceEqDiff,Nat.reduceAdd,Nat.reduceSub,Nat.reduceMul,Nat.reduceLT,Nat.reduceLeDiff,Nat.reduceBEq,Nat.reduceBNe,Int.reduceLT,Int.reduceLE,Int.reduceEq,Int.reduceNeg,Int.reduceAdd,Int.reduceSub,Int.reduceMul,Int.reduceToNat,Int.reducePow,Nat.reducePow, show sg (decide (n < 0)) n.natAbs = n by by_cases h : n < 0 <;> simp [sg, h] <;> omega]) (by simp) ?_
  rintro ⟨acc, m⟩ ⟨h3, h4⟩
  simp only at h3 h4
  by_cases hm : m = 0
  · subst hm
    rw [digs_zero, List.append_nil] at h3
    have hz : sg (decide (n < 0)) 0 = 0 := by cases decide (n < 0) <;> rfl
    by_cases ha : acc = []
    · subst ha
      have ht := fin .nil
      rw [h3] at ht
      have ht : ret tab.get an 79 [.bool (decide (n < 0)), .sl .nil []] = some (rInt n) := ht
      simp -dsimp only [i22b0]
      simp -dsimp (disch := first | omega | assumption | apply agg_two | apply agg_nInt | apply agg_rInt | (simp only [J1,J2,J3,J4,J5,J6,J7,J8]; omega)) only [i22, go_sem,↓reduceIte,reduceCtorEq,Nat.reduceEqDiff,Nat.reduceAdd,Nat.reduceSub,Nat.reduceMul,Nat.reduceLT,Nat.reduceLeDiff,Nat.reduceBEq,Nat.reduceBNe,Int.reduceLT,Int.reduceLE,Int.reduceEq,Int.reduceNeg,Int.reduceAdd,Int.reduceSub,Int.reduceMul,Int.reduceToNat,Int.reducePow,Nat.reducePow, hz, ht, List.map_nil]
    · have h5 := accS_ne (sz := 1) (k := 1) (i64s_ne ha)
      have h6 := accL_ne (sz := 1) (i64s_ne ha)
      have ht := fin .any
      rw [h3] at ht
      simp -dsimp only [i22b0]
      simp -dsimp (disch := first | omega | assumption | apply agg_two | apply agg_nInt | apply agg_rInt | (simp only [J1,J2,J3,J4,J5,J6,J7,J8]; omega)) only [i22, go_sem,↓reduceIte,reduceCtorEq,Nat.reduceEqDiff,Nat.reduceAdd,Nat.reduceSub,Nat.reduceMul,Nat.reduceLT,Nat.reduceLeDiff,Nat.reduceBEq,Nat.reduceBNe,Int.reduceLT,Int.reduceLE,Int.reduceEq,Int.reduceNeg,Int.reduceAdd,Int.reduceSub,Int.reduceMul,Int.reduceToNat,Int.reducePow,Nat.reducePow, hz, h5, h6, ht]
  · rw [digs_step (by decide) hm] at h3
    have hl := congrArg List.length h3
    rw [List.length_append, List.length_cons] at hl
    have hd : m / B16 < m := Nat.div_lt_self (by omega) (by decide)
    have nx : ∀ acc, (acc ++ [m % B16] ≠ []) := by simp
    have f1 : ∀ acc : List Nat, accS 1 1 (i64s (acc ++ [m % B16])) = .ref (.l 1) 1 0 (acc.length + 1) true := fun acc => by rw [accS_ne (i64s_ne (nx acc))]; simp
    have f2 : ∀ acc : List Nat, accL 1 (i64s (acc ++ [m % B16])) = [.own 1 (i64s (acc ++ [m % B16]))] := fun acc => accL_ne (i64s_ne (nx acc))
    by_cases hn : n < 0
    · have e0 : sg true m = -(m : Int) := rfl
      have e2 : (-(m : Int)).tdiv 65536 = -((m / 65536 : Nat) : Int) := by rw [Int.neg_tdiv]; exact congrArg Neg.neg (foldDiv m 65536)
      have e3 : IntKind.i64.wrap (0 - (-((m % 65536 : Nat) : Int))) = ((m % 65536 : Nat) : Int) := by rw [IntWalk.i64_in _ (by omega)]; omega
      have e4 : sg true (m / B16) = -((m / 65536 : Nat) : Int) := rfl
      have e5 : decide (n < 0) = true := by simp [hn]
      rw [e5]
      by_cases hk : m % 65536 = 0
      · have e1 : (-(m : Int)).tmod 65536 = ((m % 65536 : Nat) : Int) := by rw [Int.neg_tmod]; exact (congrArg Neg.neg (foldMod m 65536)).trans (by omega)
        by_cases ha : acc = []
        · subst ha
          simp -dsimp only [i22b0]
          simp -dsimp (disch := first | omega | assumption | apply agg_two | apply agg_nInt | apply agg_rInt | (simp only [J1,J2,J3,J4,J5,J6,J7,J8]; omega)) only [i22, go_sem,↓reduceIte,reduceCtorEq,Nat.reduceEqDiff,Nat.reduceAdd,Nat.reduceSub,Nat.reduceMul,Nat.reduceLT,Nat.reduceLeDiff,Nat.reduceBEq,Nat.reduceBNe,Int.reduceLT,Int.reduceLE,Int.reduceEq,Int.reduceNeg,Int.reduceAdd,Int.reduceSub,Int.reduceMul,Int.reduceToNat,Int.reducePow,Nat.reducePow, e0, e1, e2, e3, List.map_nil]
          refine next ⟨([] ++ [m % B16], m / B16), ?_, ⟨by rw [h3]; simp, by simp only; omega⟩, hd⟩
          simp only [f1, f2]
          simp [e4]
        · have h5 := accS_ne (sz := 1) (k := 1) (i64s_ne ha)
          have h6 := accL_ne (sz := 1) (i64s_ne ha)
          simp -dsimp only [i22b0]
          simp -dsimp (disch := first | omega | assumption | apply agg_two | apply agg_nInt | apply agg_rInt | (simp only [J1,J2,J3,J4,J5,J6,J7,J8]; omega)) only [i22, go_sem,↓reduceIte,reduceCtorEq,Nat.reduceEqDiff,Nat.reduceAdd,Nat.reduceSub,Nat.reduceMul,Nat.reduceLT,Nat.reduceLeDiff,Nat.reduceBEq,Nat.reduceBNe,Int.reduceLT,Int.reduceLE,Int.reduceEq,Int.reduceNeg,Int.reduceAdd,Int.reduceSub,Int.reduceMul,Int.reduceToNat,Int.reducePow,Nat.reducePow, e0, e1, e2, e3, h5, h6]
          refine next ⟨(acc ++ [m % B16], m / B16), ?_, ⟨by rw [h3]; simp, by simp only; omega⟩, hd⟩
          simp only [f1, f2]
          simp [e4]
      · have e1 : (-(m : Int)).tmod 65536 = -((m % 65536 : Nat) : Int) := by rw [Int.neg_tmod]; exact congrArg Neg.neg (foldMod m 65536)
        by_cases ha : acc = []
        · subst ha
          simp -dsimp only [i22b0]
          simp -dsimp (disch := first | omega | assumption | apply agg_two | apply agg_nInt | apply agg_rInt | (simp only [J1,J2,J3,J4,J5,J6,J7,J8]; omega)) only [i22, go_sem,↓reduceIte,reduceCtorEq,Nat.reduceEqDiff,Nat.reduceAdd,Nat.reduceSub,Nat.reduceMul,Nat.reduceLT,Nat.reduceLeDiff,Nat.reduceBEq,Nat.reduceBNe,Int.reduceLT,Int.reduceLE,Int.reduceEq,Int.reduceNeg,Int.reduceAdd,Int.reduceSub,Int.reduceMul,Int.reduceToNat,Int.reducePow,Nat.reducePow, e0, e1, e2, e3, List.map_nil]
          refine next ⟨([] ++ [m % B16], m / B16), ?_, ⟨by rw [h3]; simp, by simp only; omega⟩, hd⟩
          simp only [f1, f2]
          simp [e4]
        · have h5 := accS_ne (sz := 1) (k := 1) (i64s_ne ha)
          have h6 := accL_ne (sz := 1) (i64s_ne ha)
          simp -dsimp only [i22b0]
          simp -dsimp (disch := first | omega | assumption | apply agg_two | apply agg_nInt | apply agg_rInt | (simp only [J1,J2,J3,J4,J5,J6,J7,J8]; omega)) only [i22, go_sem,↓reduceIte,reduceCtorEq,Nat.reduceEqDiff,Nat.reduceAdd,Nat.reduceSub,Nat.reduceMul,Nat.reduceLT,Nat.reduceLeDiff,Nat.reduceBEq,Nat.reduceBNe,Int.reduceLT,Int.reduceLE,Int.reduceEq,Int.reduceNeg,Int.reduceAdd,Int.reduceSub,Int.reduceMul,Int.reduceToNat,Int.reducePow,Nat.reducePow, e0, e1, e2, e3, h5, h6]
          refine next ⟨(acc ++ [m % B16], m / B16), ?_, ⟨by rw [h3]; simp, by simp only; omega⟩, hd⟩
          simp only [f1, f2]
          simp [e4]
    · have e0 : sg false m = (m : Int) := rfl
      have e4 : sg false (m / B16) = ((m / 65536 : Nat) : Int) := rfl
      have e5 : decide (n < 0) = false := by simp [hn]
      rw [e5]
      · by_cases ha : acc = []
        · subst ha
          simp -dsimp only [i22b0]
          simp -dsimp (disch := first | omega | assumption | apply agg_two | apply agg_nInt | apply agg_rInt | (simp only [J1,J2,J3,J4,J5,J6,J7,J8]; omega)) only [i22, go_sem,↓reduceIte,reduceCtorEq,Nat.reduceEqDiff,Nat.reduceAdd,Nat.reduceSub,Nat.reduceMul,Nat.reduceLT,Nat.reduceLeDiff,Nat.reduceBEq,Nat.reduceBNe,Int.reduceLT,Int.reduceLE,Int.reduceEq,Int.reduceNeg,Int.reduceAdd,Int.reduceSub,Int.reduceMul,Int.reduceToNat,Int.reducePow,Nat.reducePow, e0, List.map_nil]
          refine next ⟨([] ++ [m % B16], m / B16), ?_, ⟨by rw [h3]; simp, by simp only; omega⟩, hd⟩
          simp only [f1, f2]
          simp [e4]
        · have h5 := accS_ne (sz := 1) (k := 1) (i64s_ne ha)
          have h6 := accL_ne (sz := 1) (i64s_ne ha)
          simp -dsimp only [i22b0]
          simp -dsimp (disch := first | omega | assumption | apply agg_two | apply agg_nInt | apply agg_rInt | (simp only [J1,J2,J3,J4,J5,J6,J7,J8]; omega)) only [i22, go_sem,↓reduceIte,reduceCtorEq,Nat.reduceEqDiff,Nat.reduceAdd,Nat.reduceSub,Nat.reduceMul,Nat.reduceLT,Nat.reduceLeDiff,Nat.reduceBEq,Nat.reduceBNe,Int.reduceLT,Int.reduceLE,Int.reduceEq,Int.reduceNeg,Int.reduceAdd,Int.reduceSub,Int.reduceMul,Int.reduceToNat,Int.reducePow,Nat.reducePow, e0, h5, h6]
          refine next ⟨(acc ++ [m % B16], m / B16), ?_, ⟨by rw [h3]; simp, by simp only; omega⟩, hd⟩
          simp only [f1, f2]
          simp [e4]
end Go.Proofs.YtklelbidjcealaaGreat
