/-
  No cell of these rows narrows 'for every input' (looked for: loops, veiled, ifaces, maps, wideKeys, modest, calm, conditions, laid).
  DERIVED. THE GIVEN ROWS OF THIS SEAT. 11 by the template 'for every input the law returns true; each argument reads behind the call as it read before'; 0 by the template 'total and deterministic' (their statements: YtklelbidjcealaaGreatTotals.lean).
  GIVEN WITH THE SEED: the statements are not yours to turn. If you find one false, say at which input.
  Laid BY PROGRAM, IN A SANDBOX (cutbox-rows.mjs): the forced cells as the released guide's own fill.sh prints them over the translation 1e87812af18dd1ec… (all of the seat's roots in one cut). By AI agents, Wed Nov 11 2026. No macro, syntax, notation, axiom, sorry.
-/
import Derived.Test.YtklelbidjcealaaGreatChecked
import GoSem.Claim
import GoSem.ClaimJoined
import GoSem.ClaimMapViews
import Derived.JoinedTies
import Derived.KernelRfl
namespace Go.Proofs.YtklelbidjcealaaGreat
/- THE CELL 'sum', in the pinned program and in every row, IS THE sha256 OF THE DUMP (.gsa) THAT YtklelbidjcealaaGreatProg.lean LOADS. Nothing in Lean hashes anything: it is a label: what it is worth is what the hold of that sum in a sandbox is worth. -/
noncomputable def Tryz.pinned : Pinned := { name := "ytklelbidjcealaagreat", sum := "1e87812af18dd1ec72d8216137bd0bf35495b8431a7d19f15e6022f51f8b6581", checked := Tryz.checked }
namespace Rows
def none {H : Type} : Left H := { results := [], args := [] }

/-- 'ashlarlaw8.OreMul': WHATEVER THE INPUT: true; the input reads as it did. -/
def oreMulSpec : ChangeSpec := { name := "oreMul", fn := fun _ => fun
  | [d1, d2, d3, d4] => { results := [.lit (.bool true)], args := [d1, d2, d3, d4] }
  | _ => none }
def oreMulRow : OpenClaim := { program := "ytklelbidjcealaagreat", sum := "1e87812af18dd1ec72d8216137bd0bf35495b8431a7d19f15e6022f51f8b6581", func := "ashlar/ashlarlaw8.OreMul", spec := "oreMul", unfollowed := true, recurses := true, apart := false }
def OreMulSaid : Prop := oreMulRow.holds Tryz.pinned (OpenSpec.ofChange oreMulSpec)

/-- ITS FALSE NEIGHBOUR: 'it returns false'. Refute it at one input. -/
def oreMulWrong : ChangeSpec := { name := "oreMul", fn := fun _ => fun
  | [d1, d2, d3, d4] => { results := [.lit (.bool false)], args := [d1, d2, d3, d4] }
  | _ => none }
def OreMulWrongFalsely : Prop := oreMulRow.holds Tryz.pinned (OpenSpec.ofChange oreMulWrong)

/-- 'ashlarlaw8.OreBig': WHATEVER THE INPUT: true; the input reads as it did. -/
def oreBigSpec : ChangeSpec := { name := "oreBig", fn := fun _ => fun
  | [d1, d2, d3, d4, d5] => { results := [.lit (.bool true)], args := [d1, d2, d3, d4, d5] }
  | _ => none }
def oreBigRow : OpenClaim := { program := "ytklelbidjcealaagreat", sum := "1e87812af18dd1ec72d8216137bd0bf35495b8431a7d19f15e6022f51f8b6581", func := "ashlar/ashlarlaw8.OreBig", spec := "oreBig", unfollowed := true, recurses := true, apart := false }
def OreBigSaid : Prop := oreBigRow.holds Tryz.pinned (OpenSpec.ofChange oreBigSpec)

/-- ITS FALSE NEIGHBOUR: 'it returns false'. Refute it at one input. -/
def oreBigWrong : ChangeSpec := { name := "oreBig", fn := fun _ => fun
  | [d1, d2, d3, d4, d5] => { results := [.lit (.bool false)], args := [d1, d2, d3, d4, d5] }
  | _ => none }
def OreBigWrongFalsely : Prop := oreBigRow.holds Tryz.pinned (OpenSpec.ofChange oreBigWrong)

/-- 'ashlarlaw8.OrePrim': WHATEVER THE INPUT: true; the input reads as it did. -/
def orePrimSpec : ChangeSpec := { name := "orePrim", fn := fun _ => fun
  | [d1, d2] => { results := [.lit (.bool true)], args := [d1, d2] }
  | _ => none }
def orePrimRow : OpenClaim := { program := "ytklelbidjcealaagreat", sum := "1e87812af18dd1ec72d8216137bd0bf35495b8431a7d19f15e6022f51f8b6581", func := "ashlar/ashlarlaw8.OrePrim", spec := "orePrim", unfollowed := true, recurses := true, apart := false }
def OrePrimSaid : Prop := orePrimRow.holds Tryz.pinned (OpenSpec.ofChange orePrimSpec)

/-- ITS FALSE NEIGHBOUR: 'it returns false'. Refute it at one input. -/
def orePrimWrong : ChangeSpec := { name := "orePrim", fn := fun _ => fun
  | [d1, d2] => { results := [.lit (.bool false)], args := [d1, d2] }
  | _ => none }
def OrePrimWrongFalsely : Prop := orePrimRow.holds Tryz.pinned (OpenSpec.ofChange orePrimWrong)

/-- 'ashlarlaw8.OreApply': WHATEVER THE INPUT: true; the input reads as it did. -/
def oreApplySpec : ChangeSpec := { name := "oreApply", fn := fun _ => fun
  | [d1, d2, d3, d4] => { results := [.lit (.bool true)], args := [d1, d2, d3, d4] }
  | _ => none }
def oreApplyRow : OpenClaim := { program := "ytklelbidjcealaagreat", sum := "1e87812af18dd1ec72d8216137bd0bf35495b8431a7d19f15e6022f51f8b6581", func := "ashlar/ashlarlaw8.OreApply", spec := "oreApply", unfollowed := true, recurses := true, apart := false }
def OreApplySaid : Prop := oreApplyRow.holds Tryz.pinned (OpenSpec.ofChange oreApplySpec)

/-- ITS FALSE NEIGHBOUR: 'it returns false'. Refute it at one input. -/
def oreApplyWrong : ChangeSpec := { name := "oreApply", fn := fun _ => fun
  | [d1, d2, d3, d4] => { results := [.lit (.bool false)], args := [d1, d2, d3, d4] }
  | _ => none }
def OreApplyWrongFalsely : Prop := oreApplyRow.holds Tryz.pinned (OpenSpec.ofChange oreApplyWrong)

/-- 'ashlarlaw8.OreActs': WHATEVER THE INPUT: true; the input reads as it did. -/
def oreActsSpec : ChangeSpec := { name := "oreActs", fn := fun _ => fun
  | [d1, d2, d3, d4, d5] => { results := [.lit (.bool true)], args := [d1, d2, d3, d4, d5] }
  | _ => none }
def oreActsRow : OpenClaim := { program := "ytklelbidjcealaagreat", sum := "1e87812af18dd1ec72d8216137bd0bf35495b8431a7d19f15e6022f51f8b6581", func := "ashlar/ashlarlaw8.OreActs", spec := "oreActs", unfollowed := true, recurses := true, apart := false }
def OreActsSaid : Prop := oreActsRow.holds Tryz.pinned (OpenSpec.ofChange oreActsSpec)

/-- ITS FALSE NEIGHBOUR: 'it returns false'. Refute it at one input. -/
def oreActsWrong : ChangeSpec := { name := "oreActs", fn := fun _ => fun
  | [d1, d2, d3, d4, d5] => { results := [.lit (.bool false)], args := [d1, d2, d3, d4, d5] }
  | _ => none }
def OreActsWrongFalsely : Prop := oreActsRow.holds Tryz.pinned (OpenSpec.ofChange oreActsWrong)

/-- 'ashlarlaw8.OreRing': WHATEVER THE INPUT: true; the input reads as it did. -/
def oreRingSpec : ChangeSpec := { name := "oreRing", fn := fun _ => fun
  | [d1, d2, d3, d4, d5] => { results := [.lit (.bool true)], args := [d1, d2, d3, d4, d5] }
  | _ => none }
def oreRingRow : OpenClaim := { program := "ytklelbidjcealaagreat", sum := "1e87812af18dd1ec72d8216137bd0bf35495b8431a7d19f15e6022f51f8b6581", func := "ashlar/ashlarlaw8.OreRing", spec := "oreRing", unfollowed := true, recurses := true, apart := false }
def OreRingSaid : Prop := oreRingRow.holds Tryz.pinned (OpenSpec.ofChange oreRingSpec)

/-- ITS FALSE NEIGHBOUR: 'it returns false'. Refute it at one input. -/
def oreRingWrong : ChangeSpec := { name := "oreRing", fn := fun _ => fun
  | [d1, d2, d3, d4, d5] => { results := [.lit (.bool false)], args := [d1, d2, d3, d4, d5] }
  | _ => none }
def OreRingWrongFalsely : Prop := oreRingRow.holds Tryz.pinned (OpenSpec.ofChange oreRingWrong)

/-- 'ashlarlaw8.OreEach': WHATEVER THE INPUT: true; the input reads as it did. -/
def oreEachSpec : ChangeSpec := { name := "oreEach", fn := fun _ => fun
  | [d1, d2] => { results := [.lit (.bool true)], args := [d1, d2] }
  | _ => none }
def oreEachRow : OpenClaim := { program := "ytklelbidjcealaagreat", sum := "1e87812af18dd1ec72d8216137bd0bf35495b8431a7d19f15e6022f51f8b6581", func := "ashlar/ashlarlaw8.OreEach", spec := "oreEach", unfollowed := true, recurses := true, apart := false }
def OreEachSaid : Prop := oreEachRow.holds Tryz.pinned (OpenSpec.ofChange oreEachSpec)

/-- ITS FALSE NEIGHBOUR: 'it returns false'. Refute it at one input. -/
def oreEachWrong : ChangeSpec := { name := "oreEach", fn := fun _ => fun
  | [d1, d2] => { results := [.lit (.bool false)], args := [d1, d2] }
  | _ => none }
def OreEachWrongFalsely : Prop := oreEachRow.holds Tryz.pinned (OpenSpec.ofChange oreEachWrong)

/-- 'ashlarlaw8.OreNew': WHATEVER THE INPUT: true; the input reads as it did. -/
def oreNewSpec : ChangeSpec := { name := "oreNew", fn := fun _ => fun
  | [d1, d2, d3] => { results := [.lit (.bool true)], args := [d1, d2, d3] }
  | _ => none }
def oreNewRow : OpenClaim := { program := "ytklelbidjcealaagreat", sum := "1e87812af18dd1ec72d8216137bd0bf35495b8431a7d19f15e6022f51f8b6581", func := "ashlar/ashlarlaw8.OreNew", spec := "oreNew", unfollowed := true, recurses := true, apart := false }
def OreNewSaid : Prop := oreNewRow.holds Tryz.pinned (OpenSpec.ofChange oreNewSpec)

/-- ITS FALSE NEIGHBOUR: 'it returns false'. Refute it at one input. -/
def oreNewWrong : ChangeSpec := { name := "oreNew", fn := fun _ => fun
  | [d1, d2, d3] => { results := [.lit (.bool false)], args := [d1, d2, d3] }
  | _ => none }
def OreNewWrongFalsely : Prop := oreNewRow.holds Tryz.pinned (OpenSpec.ofChange oreNewWrong)

/-- 'ashlarlaw8.OrePower': WHATEVER THE INPUT: true; the input reads as it did. -/
def orePowerSpec : ChangeSpec := { name := "orePower", fn := fun _ => fun
  | [d1, d2, d3, d4] => { results := [.lit (.bool true)], args := [d1, d2, d3, d4] }
  | _ => none }
def orePowerRow : OpenClaim := { program := "ytklelbidjcealaagreat", sum := "1e87812af18dd1ec72d8216137bd0bf35495b8431a7d19f15e6022f51f8b6581", func := "ashlar/ashlarlaw8.OrePower", spec := "orePower", unfollowed := true, recurses := true, apart := false }
def OrePowerSaid : Prop := orePowerRow.holds Tryz.pinned (OpenSpec.ofChange orePowerSpec)

/-- ITS FALSE NEIGHBOUR: 'it returns false'. Refute it at one input. -/
def orePowerWrong : ChangeSpec := { name := "orePower", fn := fun _ => fun
  | [d1, d2, d3, d4] => { results := [.lit (.bool false)], args := [d1, d2, d3, d4] }
  | _ => none }
def OrePowerWrongFalsely : Prop := orePowerRow.holds Tryz.pinned (OpenSpec.ofChange orePowerWrong)

/-- 'ashlarlaw8.OreSums': WHATEVER THE INPUT: true; the input reads as it did. -/
def oreSumsSpec : ChangeSpec := { name := "oreSums", fn := fun _ => fun
  | [d1, d2, d3] => { results := [.lit (.bool true)], args := [d1, d2, d3] }
  | _ => none }
def oreSumsRow : OpenClaim := { program := "ytklelbidjcealaagreat", sum := "1e87812af18dd1ec72d8216137bd0bf35495b8431a7d19f15e6022f51f8b6581", func := "ashlar/ashlarlaw8.OreSums", spec := "oreSums", unfollowed := true, recurses := true, apart := false }
def OreSumsSaid : Prop := oreSumsRow.holds Tryz.pinned (OpenSpec.ofChange oreSumsSpec)

/-- ITS FALSE NEIGHBOUR: 'it returns false'. Refute it at one input. -/
def oreSumsWrong : ChangeSpec := { name := "oreSums", fn := fun _ => fun
  | [d1, d2, d3] => { results := [.lit (.bool false)], args := [d1, d2, d3] }
  | _ => none }
def OreSumsWrongFalsely : Prop := oreSumsRow.holds Tryz.pinned (OpenSpec.ofChange oreSumsWrong)

/-- 'ashlarlaw8.OreNone': WHATEVER THE INPUT: true; the input reads as it did. -/
def oreNoneSpec : ChangeSpec := { name := "oreNone", fn := fun _ => fun
  | [] => { results := [.lit (.bool true)], args := [] }
  | _ => none }
def oreNoneRow : OpenClaim := { program := "ytklelbidjcealaagreat", sum := "1e87812af18dd1ec72d8216137bd0bf35495b8431a7d19f15e6022f51f8b6581", func := "ashlar/ashlarlaw8.OreNone", spec := "oreNone", unfollowed := true, recurses := true, apart := false }
def OreNoneSaid : Prop := oreNoneRow.holds Tryz.pinned (OpenSpec.ofChange oreNoneSpec)

/-- ITS FALSE NEIGHBOUR: 'it returns false'. Refute it at one input. -/
def oreNoneWrong : ChangeSpec := { name := "oreNone", fn := fun _ => fun
  | [] => { results := [.lit (.bool false)], args := [] }
  | _ => none }
def OreNoneWrongFalsely : Prop := oreNoneRow.holds Tryz.pinned (OpenSpec.ofChange oreNoneWrong)

/- THE SECOND FORM. 'bulk': how many values and letters a reading holds, each counted each time it is reached (what is shared counts as often as it is met; a slice's spare places count too). A statement '..UptoSaid' is the law's where the arguments, and the package variables that the reading takes, are together of bulk at most 1048576: NARROWER than '..Said'. Prove '..Said' where nothing that the law and all that it calls make is longer than what came in: it says more and counts as full. Else prove '..UptoSaid'. A law counts once. -/
mutual
def uptoBulk {H : Type} : DataW H → Nat
  | .lit (.string bytes) => bytes.length + 1
  | .lit _ => 1
  | .nil => 1
  | .ptr d => uptoBulk d + 1
  | .slice elems spare => uptoBulkAll elems + uptoBulkAll spare + 1
  | .agg parts => uptoBulkAll parts + 1
  | .iface _ d => uptoBulk d + 1
  | .map entries => uptoBulkEntries entries + 1
  | .held _ => 1
def uptoBulkAll {H : Type} : List (DataW H) → Nat
  | [] => 0
  | d :: r => uptoBulk d + uptoBulkAll r
def uptoBulkEntries {H : Type} : List (Lit × DataW H) → Nat
  | [] => 0
  | x :: r => uptoBulkEntry x + uptoBulkEntries r
def uptoBulkEntry {H : Type} : Lit × DataW H → Nat
  | (.string bytes, d) => bytes.length + uptoBulk d + 1
  | (_, d) => uptoBulk d + 1
 end
def uptoSmall : (H : Type) → List (DataW H) → Bool := fun _ ds => decide (uptoBulkAll ds ≤ 1048576)
def OpenSpec.upto (s : _root_.Go.ChangeSpec) : _root_.Go.OpenSpec := { _root_.Go.OpenSpec.ofChange s with cond := some uptoSmall }

/-- 'ashlarlaw8.OreMul', WHERE WHAT IT READS IS OF BULK AT MOST 1048576: true; the input reads as it did. -/
def oreMulUptoRow : OpenClaim := { program := "ytklelbidjcealaagreat", sum := "1e87812af18dd1ec72d8216137bd0bf35495b8431a7d19f15e6022f51f8b6581", func := "ashlar/ashlarlaw8.OreMul", spec := "oreMul", unfollowed := true, recurses := true, apart := false, narrowed := true }
def OreMulUptoSaid : Prop := oreMulUptoRow.holds Tryz.pinned (OpenSpec.upto oreMulSpec)

/-- 'ashlarlaw8.OreBig', WHERE WHAT IT READS IS OF BULK AT MOST 1048576: true; the input reads as it did. -/
def oreBigUptoRow : OpenClaim := { program := "ytklelbidjcealaagreat", sum := "1e87812af18dd1ec72d8216137bd0bf35495b8431a7d19f15e6022f51f8b6581", func := "ashlar/ashlarlaw8.OreBig", spec := "oreBig", unfollowed := true, recurses := true, apart := false, narrowed := true }
def OreBigUptoSaid : Prop := oreBigUptoRow.holds Tryz.pinned (OpenSpec.upto oreBigSpec)

/-- 'ashlarlaw8.OrePrim', WHERE WHAT IT READS IS OF BULK AT MOST 1048576: true; the input reads as it did. -/
def orePrimUptoRow : OpenClaim := { program := "ytklelbidjcealaagreat", sum := "1e87812af18dd1ec72d8216137bd0bf35495b8431a7d19f15e6022f51f8b6581", func := "ashlar/ashlarlaw8.OrePrim", spec := "orePrim", unfollowed := true, recurses := true, apart := false, narrowed := true }
def OrePrimUptoSaid : Prop := orePrimUptoRow.holds Tryz.pinned (OpenSpec.upto orePrimSpec)

/-- 'ashlarlaw8.OreApply', WHERE WHAT IT READS IS OF BULK AT MOST 1048576: true; the input reads as it did. -/
def oreApplyUptoRow : OpenClaim := { program := "ytklelbidjcealaagreat", sum := "1e87812af18dd1ec72d8216137bd0bf35495b8431a7d19f15e6022f51f8b6581", func := "ashlar/ashlarlaw8.OreApply", spec := "oreApply", unfollowed := true, recurses := true, apart := false, narrowed := true }
def OreApplyUptoSaid : Prop := oreApplyUptoRow.holds Tryz.pinned (OpenSpec.upto oreApplySpec)

/-- 'ashlarlaw8.OreActs', WHERE WHAT IT READS IS OF BULK AT MOST 1048576: true; the input reads as it did. -/
def oreActsUptoRow : OpenClaim := { program := "ytklelbidjcealaagreat", sum := "1e87812af18dd1ec72d8216137bd0bf35495b8431a7d19f15e6022f51f8b6581", func := "ashlar/ashlarlaw8.OreActs", spec := "oreActs", unfollowed := true, recurses := true, apart := false, narrowed := true }
def OreActsUptoSaid : Prop := oreActsUptoRow.holds Tryz.pinned (OpenSpec.upto oreActsSpec)

/-- 'ashlarlaw8.OreRing', WHERE WHAT IT READS IS OF BULK AT MOST 1048576: true; the input reads as it did. -/
def oreRingUptoRow : OpenClaim := { program := "ytklelbidjcealaagreat", sum := "1e87812af18dd1ec72d8216137bd0bf35495b8431a7d19f15e6022f51f8b6581", func := "ashlar/ashlarlaw8.OreRing", spec := "oreRing", unfollowed := true, recurses := true, apart := false, narrowed := true }
def OreRingUptoSaid : Prop := oreRingUptoRow.holds Tryz.pinned (OpenSpec.upto oreRingSpec)

/-- 'ashlarlaw8.OreEach', WHERE WHAT IT READS IS OF BULK AT MOST 1048576: true; the input reads as it did. -/
def oreEachUptoRow : OpenClaim := { program := "ytklelbidjcealaagreat", sum := "1e87812af18dd1ec72d8216137bd0bf35495b8431a7d19f15e6022f51f8b6581", func := "ashlar/ashlarlaw8.OreEach", spec := "oreEach", unfollowed := true, recurses := true, apart := false, narrowed := true }
def OreEachUptoSaid : Prop := oreEachUptoRow.holds Tryz.pinned (OpenSpec.upto oreEachSpec)

/-- 'ashlarlaw8.OreNew', WHERE WHAT IT READS IS OF BULK AT MOST 1048576: true; the input reads as it did. -/
def oreNewUptoRow : OpenClaim := { program := "ytklelbidjcealaagreat", sum := "1e87812af18dd1ec72d8216137bd0bf35495b8431a7d19f15e6022f51f8b6581", func := "ashlar/ashlarlaw8.OreNew", spec := "oreNew", unfollowed := true, recurses := true, apart := false, narrowed := true }
def OreNewUptoSaid : Prop := oreNewUptoRow.holds Tryz.pinned (OpenSpec.upto oreNewSpec)

/-- 'ashlarlaw8.OrePower', WHERE WHAT IT READS IS OF BULK AT MOST 1048576: true; the input reads as it did. -/
def orePowerUptoRow : OpenClaim := { program := "ytklelbidjcealaagreat", sum := "1e87812af18dd1ec72d8216137bd0bf35495b8431a7d19f15e6022f51f8b6581", func := "ashlar/ashlarlaw8.OrePower", spec := "orePower", unfollowed := true, recurses := true, apart := false, narrowed := true }
def OrePowerUptoSaid : Prop := orePowerUptoRow.holds Tryz.pinned (OpenSpec.upto orePowerSpec)

/-- 'ashlarlaw8.OreSums', WHERE WHAT IT READS IS OF BULK AT MOST 1048576: true; the input reads as it did. -/
def oreSumsUptoRow : OpenClaim := { program := "ytklelbidjcealaagreat", sum := "1e87812af18dd1ec72d8216137bd0bf35495b8431a7d19f15e6022f51f8b6581", func := "ashlar/ashlarlaw8.OreSums", spec := "oreSums", unfollowed := true, recurses := true, apart := false, narrowed := true }
def OreSumsUptoSaid : Prop := oreSumsUptoRow.holds Tryz.pinned (OpenSpec.upto oreSumsSpec)

/-- 'ashlarlaw8.OreNone', WHERE WHAT IT READS IS OF BULK AT MOST 1048576: true; the input reads as it did. -/
def oreNoneUptoRow : OpenClaim := { program := "ytklelbidjcealaagreat", sum := "1e87812af18dd1ec72d8216137bd0bf35495b8431a7d19f15e6022f51f8b6581", func := "ashlar/ashlarlaw8.OreNone", spec := "oreNone", unfollowed := true, recurses := true, apart := false, narrowed := true }
def OreNoneUptoSaid : Prop := oreNoneUptoRow.holds Tryz.pinned (OpenSpec.upto oreNoneSpec)

end Rows
end Go.Proofs.YtklelbidjcealaaGreat
