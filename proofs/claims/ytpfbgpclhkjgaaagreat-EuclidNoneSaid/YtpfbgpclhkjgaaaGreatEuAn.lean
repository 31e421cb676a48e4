/- A part of the proof: an evaluator of programs, its soundness, and what it says of the functions in hand. It holds without further conditions. -/
import Derived.Test.YtpfbgpclhkjgaaaGreatEuIrT
import Derived.Test.YtpfbgpclhkjgaaaGreatAb24
import Derived.KernelRfl
namespace Go.Proofs.YtpfbgpclhkjgaaaGreat
open Go.Ab
def an : Ann := { inh := fun f => [122, 187, 188, 193, 192].contains f, raw := fun c f => [(162, 185), (135, 110), (110, 146)].contains (c, f) }
end Go.Proofs.YtpfbgpclhkjgaaaGreat
