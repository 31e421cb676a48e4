/- A part of the proof: an evaluator of programs, its soundness, and what it says of the functions in hand. It holds without further conditions. -/
import Derived.Test.YtklelbidjcealaaGreatOrIrT
import Derived.Test.YtklelbidjcealaaGreatAb24
import Derived.KernelRfl
namespace Go.Proofs.YtklelbidjcealaaGreat
open Go.Ab
def an : Ann := { inh := fun f => [130, 183, 184, 189, 188].contains f, raw := fun c f => [(156, 181), (105, 93), (93, 132)].contains (c, f) }
end Go.Proofs.YtklelbidjcealaaGreat
