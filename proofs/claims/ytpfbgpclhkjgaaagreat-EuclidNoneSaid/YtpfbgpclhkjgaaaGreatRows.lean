/-
  No cell of these rows narrows 'for every input' (looked for: loops, veiled, ifaces, maps, wideKeys, modest, calm, conditions, laid).
  DERIVED. THE GIVEN ROWS OF THIS SEAT. 6 by the template 'for every input the law returns true; each argument reads behind the call as it read before'; 0 by the template 'total and deterministic' (their statements: YtpfbgpclhkjgaaaGreatTotals.lean).
  GIVEN WITH THE SEED: the statements are not yours to turn. If you find one false, say at which input.
  Laid BY PROGRAM, IN A SANDBOX (cutbox-rows.mjs): the forced cells as the released guide's own fill.sh prints them over the translation b9542b435c5c1e00… (all of the seat's roots in one cut). By AI agents, Wed Nov 11 2026. No macro, syntax, notation, axiom, sorry.
-/
import Derived.Test.YtpfbgpclhkjgaaaGreatChecked
import GoSem.Claim
import GoSem.ClaimJoined
import GoSem.ClaimMapViews
import Derived.JoinedTies
import Derived.KernelRfl
namespace Go.Proofs.YtpfbgpclhkjgaaaGreat
/- THE CELL 'sum', in the pinned program and in every row, IS THE sha256 OF THE DUMP (.gsa) THAT YtpfbgpclhkjgaaaGreatProg.lean LOADS. Nothing in Lean hashes anything: it is a label: what it is worth is what the hold of that sum in a sandbox is worth. -/
noncomputable def Tryz.pinned : Pinned := { name := "ytpfbgpclhkjgaaagreat", sum := "b9542b435c5c1e00f4f258cf450bb5a830a0e8bf83590ce20e411a63efb75c71", checked := Tryz.checked }
namespace Rows
def none {H : Type} : Left H := { results := [], args := [] }

/-- 'ashlarlaw10.DivAll': WHATEVER THE INPUT: true; the input reads as it did. -/
def divAllSpec : ChangeSpec := { name := "divAll", fn := fun _ => fun
  | [d1, d2, d3, d4] => { results := [.lit (.bool true)], args := [d1, d2, d3, d4] }
  | _ => none }
def divAllRow : OpenClaim := { program := "ytpfbgpclhkjgaaagreat", sum := "b9542b435c5c1e00f4f258cf450bb5a830a0e8bf83590ce20e411a63efb75c71", func := "ashlar/ashlarlaw10.DivAll", spec := "divAll", unfollowed := true, recurses := true, apart := false }
def DivAllSaid : Prop := divAllRow.holds Tryz.pinned (OpenSpec.ofChange divAllSpec)

/-- ITS FALSE NEIGHBOUR: 'it returns false'. Refute it at one input. -/
def divAllWrong : ChangeSpec := { name := "divAll", fn := fun _ => fun
  | [d1, d2, d3, d4] => { results := [.lit (.bool false)], args := [d1, d2, d3, d4] }
  | _ => none }
def DivAllWrongFalsely : Prop := divAllRow.holds Tryz.pinned (OpenSpec.ofChange divAllWrong)

/-- 'ashlarlaw10.DivMade': WHATEVER THE INPUT: true; the input reads as it did. -/
def divMadeSpec : ChangeSpec := { name := "divMade", fn := fun _ => fun
  | [d1, d2, d3, d4, d5] => { results := [.lit (.bool true)], args := [d1, d2, d3, d4, d5] }
  | _ => none }
def divMadeRow : OpenClaim := { program := "ytpfbgpclhkjgaaagreat", sum := "b9542b435c5c1e00f4f258cf450bb5a830a0e8bf83590ce20e411a63efb75c71", func := "ashlar/ashlarlaw10.DivMade", spec := "divMade", unfollowed := true, recurses := true, apart := false }
def DivMadeSaid : Prop := divMadeRow.holds Tryz.pinned (OpenSpec.ofChange divMadeSpec)

/-- ITS FALSE NEIGHBOUR: 'it returns false'. Refute it at one input. -/
def divMadeWrong : ChangeSpec := { name := "divMade", fn := fun _ => fun
  | [d1, d2, d3, d4, d5] => { results := [.lit (.bool false)], args := [d1, d2, d3, d4, d5] }
  | _ => none }
def DivMadeWrongFalsely : Prop := divMadeRow.holds Tryz.pinned (OpenSpec.ofChange divMadeWrong)

/-- 'ashlarlaw10.CommonAll': WHATEVER THE INPUT: true; the input reads as it did. -/
def commonAllSpec : ChangeSpec := { name := "commonAll", fn := fun _ => fun
  | [d1, d2, d3, d4] => { results := [.lit (.bool true)], args := [d1, d2, d3, d4] }
  | _ => none }
def commonAllRow : OpenClaim := { program := "ytpfbgpclhkjgaaagreat", sum := "b9542b435c5c1e00f4f258cf450bb5a830a0e8bf83590ce20e411a63efb75c71", func := "ashlar/ashlarlaw10.CommonAll", spec := "commonAll", unfollowed := true, recurses := true, apart := false }
def CommonAllSaid : Prop := commonAllRow.holds Tryz.pinned (OpenSpec.ofChange commonAllSpec)

/-- ITS FALSE NEIGHBOUR: 'it returns false'. Refute it at one input. -/
def commonAllWrong : ChangeSpec := { name := "commonAll", fn := fun _ => fun
  | [d1, d2, d3, d4] => { results := [.lit (.bool false)], args := [d1, d2, d3, d4] }
  | _ => none }
def CommonAllWrongFalsely : Prop := commonAllRow.holds Tryz.pinned (OpenSpec.ofChange commonAllWrong)

/-- 'ashlarlaw10.CommonMade': WHATEVER THE INPUT: true; the input reads as it did. -/
def commonMadeSpec : ChangeSpec := { name := "commonMade", fn := fun _ => fun
  | [d1, d2, d3, d4, d5] => { results := [.lit (.bool true)], args := [d1, d2, d3, d4, d5] }
  | _ => none }
def commonMadeRow : OpenClaim := { program := "ytpfbgpclhkjgaaagreat", sum := "b9542b435c5c1e00f4f258cf450bb5a830a0e8bf83590ce20e411a63efb75c71", func := "ashlar/ashlarlaw10.CommonMade", spec := "commonMade", unfollowed := true, recurses := true, apart := false }
def CommonMadeSaid : Prop := commonMadeRow.holds Tryz.pinned (OpenSpec.ofChange commonMadeSpec)

/-- ITS FALSE NEIGHBOUR: 'it returns false'. Refute it at one input. -/
def commonMadeWrong : ChangeSpec := { name := "commonMade", fn := fun _ => fun
  | [d1, d2, d3, d4, d5] => { results := [.lit (.bool false)], args := [d1, d2, d3, d4, d5] }
  | _ => none }
def CommonMadeWrongFalsely : Prop := commonMadeRow.holds Tryz.pinned (OpenSpec.ofChange commonMadeWrong)

/-- 'ashlarlaw10.MultipleAll': WHATEVER THE INPUT: true; the input reads as it did. -/
def multipleAllSpec : ChangeSpec := { name := "multipleAll", fn := fun _ => fun
  | [d1, d2, d3, d4] => { results := [.lit (.bool true)], args := [d1, d2, d3, d4] }
  | _ => none }
def multipleAllRow : OpenClaim := { program := "ytpfbgpclhkjgaaagreat", sum := "b9542b435c5c1e00f4f258cf450bb5a830a0e8bf83590ce20e411a63efb75c71", func := "ashlar/ashlarlaw10.MultipleAll", spec := "multipleAll", unfollowed := true, recurses := true, apart := false }
def MultipleAllSaid : Prop := multipleAllRow.holds Tryz.pinned (OpenSpec.ofChange multipleAllSpec)

/-- ITS FALSE NEIGHBOUR: 'it returns false'. Refute it at one input. -/
def multipleAllWrong : ChangeSpec := { name := "multipleAll", fn := fun _ => fun
  | [d1, d2, d3, d4] => { results := [.lit (.bool false)], args := [d1, d2, d3, d4] }
  | _ => none }
def MultipleAllWrongFalsely : Prop := multipleAllRow.holds Tryz.pinned (OpenSpec.ofChange multipleAllWrong)

/-- 'ashlarlaw10.EuclidNone': WHATEVER THE INPUT: true; the input reads as it did. -/
def euclidNoneSpec : ChangeSpec := { name := "euclidNone", fn := fun _ => fun
  | [] => { results := [.lit (.bool true)], args := [] }
  | _ => none }
def euclidNoneRow : OpenClaim := { program := "ytpfbgpclhkjgaaagreat", sum := "b9542b435c5c1e00f4f258cf450bb5a830a0e8bf83590ce20e411a63efb75c71", func := "ashlar/ashlarlaw10.EuclidNone", spec := "euclidNone", unfollowed := true, recurses := true, apart := false }
def EuclidNoneSaid : Prop := euclidNoneRow.holds Tryz.pinned (OpenSpec.ofChange euclidNoneSpec)

/-- ITS FALSE NEIGHBOUR: 'it returns false'. Refute it at one input. -/
def euclidNoneWrong : ChangeSpec := { name := "euclidNone", fn := fun _ => fun
  | [] => { results := [.lit (.bool false)], args := [] }
  | _ => none }
def EuclidNoneWrongFalsely : Prop := euclidNoneRow.holds Tryz.pinned (OpenSpec.ofChange euclidNoneWrong)

/- THE SECOND FORM. 'bulk': how many values and letters a reading holds, each counted each time it is reached (what is shared counts as often as it is met; a slice's spare places count too). A statement '..UptoSaid' is the law's where the arguments, and the package variables that the reading takes, are together of bulk at most 1048576: NARROWER than '..Said'. Prove '..Said' where nothing that the law and all that it calls make is longer than what came in: it says more and counts as full. Else prove '..UptoSaid'. A law counts once. -/
mutual
def uptoBulk {H : Type} : DataW H → Nat
  | .lit (.string bytes) => bytes.length + 1
  | .lit _ => 1
  | .nil => 1
  | .ptr d => uptoBulk d + 1
  | .slice elems spare => uptoBulkAll elems + uptoBulkAll spare + 1
  | .agg parts => uptoBulkAll parts + 1
  | .iface _ d => uptoBulk d + 1
  | .map entries => uptoBulkEntries entries + 1
  | .held _ => 1
def uptoBulkAll {H : Type} : List (DataW H) → Nat
  | [] => 0
  | d :: r => uptoBulk d + uptoBulkAll r
def uptoBulkEntries {H : Type} : List (Lit × DataW H) → Nat
  | [] => 0
  | x :: r => uptoBulkEntry x + uptoBulkEntries r
def uptoBulkEntry {H : Type} : Lit × DataW H → Nat
  | (.string bytes, d) => bytes.length + uptoBulk d + 1
  | (_, d) => uptoBulk d + 1
 end
def uptoSmall : (H : Type) → List (DataW H) → Bool := fun _ ds => decide (uptoBulkAll ds ≤ 1048576)
def OpenSpec.upto (s : _root_.Go.ChangeSpec) : _root_.Go.OpenSpec := { _root_.Go.OpenSpec.ofChange s with cond := some uptoSmall }

/-- 'ashlarlaw10.DivAll', WHERE WHAT IT READS IS OF BULK AT MOST 1048576: true; the input reads as it did. -/
def divAllUptoRow : OpenClaim := { program := "ytpfbgpclhkjgaaagreat", sum := "b9542b435c5c1e00f4f258cf450bb5a830a0e8bf83590ce20e411a63efb75c71", func := "ashlar/ashlarlaw10.DivAll", spec := "divAll", unfollowed := true, recurses := true, apart := false, narrowed := true }
def DivAllUptoSaid : Prop := divAllUptoRow.holds Tryz.pinned (OpenSpec.upto divAllSpec)

/-- 'ashlarlaw10.DivMade', WHERE WHAT IT READS IS OF BULK AT MOST 1048576: true; the input reads as it did. -/
def divMadeUptoRow : OpenClaim := { program := "ytpfbgpclhkjgaaagreat", sum := "b9542b435c5c1e00f4f258cf450bb5a830a0e8bf83590ce20e411a63efb75c71", func := "ashlar/ashlarlaw10.DivMade", spec := "divMade", unfollowed := true, recurses := true, apart := false, narrowed := true }
def DivMadeUptoSaid : Prop := divMadeUptoRow.holds Tryz.pinned (OpenSpec.upto divMadeSpec)

/-- 'ashlarlaw10.CommonAll', WHERE WHAT IT READS IS OF BULK AT MOST 1048576: true; the input reads as it did. -/
def commonAllUptoRow : OpenClaim := { program := "ytpfbgpclhkjgaaagreat", sum := "b9542b435c5c1e00f4f258cf450bb5a830a0e8bf83590ce20e411a63efb75c71", func := "ashlar/ashlarlaw10.CommonAll", spec := "commonAll", unfollowed := true, recurses := true, apart := false, narrowed := true }
def CommonAllUptoSaid : Prop := commonAllUptoRow.holds Tryz.pinned (OpenSpec.upto commonAllSpec)

/-- 'ashlarlaw10.CommonMade', WHERE WHAT IT READS IS OF BULK AT MOST 1048576: true; the input reads as it did. -/
def commonMadeUptoRow : OpenClaim := { program := "ytpfbgpclhkjgaaagreat", sum := "b9542b435c5c1e00f4f258cf450bb5a830a0e8bf83590ce20e411a63efb75c71", func := "ashlar/ashlarlaw10.CommonMade", spec := "commonMade", unfollowed := true, recurses := true, apart := false, narrowed := true }
def CommonMadeUptoSaid : Prop := commonMadeUptoRow.holds Tryz.pinned (OpenSpec.upto commonMadeSpec)

/-- 'ashlarlaw10.MultipleAll', WHERE WHAT IT READS IS OF BULK AT MOST 1048576: true; the input reads as it did. -/
def multipleAllUptoRow : OpenClaim := { program := "ytpfbgpclhkjgaaagreat", sum := "b9542b435c5c1e00f4f258cf450bb5a830a0e8bf83590ce20e411a63efb75c71", func := "ashlar/ashlarlaw10.MultipleAll", spec := "multipleAll", unfollowed := true, recurses := true, apart := false, narrowed := true }
def MultipleAllUptoSaid : Prop := multipleAllUptoRow.holds Tryz.pinned (OpenSpec.upto multipleAllSpec)

/-- 'ashlarlaw10.EuclidNone', WHERE WHAT IT READS IS OF BULK AT MOST 1048576: true; the input reads as it did. -/
def euclidNoneUptoRow : OpenClaim := { program := "ytpfbgpclhkjgaaagreat", sum := "b9542b435c5c1e00f4f258cf450bb5a830a0e8bf83590ce20e411a63efb75c71", func := "ashlar/ashlarlaw10.EuclidNone", spec := "euclidNone", unfollowed := true, recurses := true, apart := false, narrowed := true }
def EuclidNoneUptoSaid : Prop := euclidNoneUptoRow.holds Tryz.pinned (OpenSpec.upto euclidNoneSpec)

end Rows
end Go.Proofs.YtpfbgpclhkjgaaaGreat
