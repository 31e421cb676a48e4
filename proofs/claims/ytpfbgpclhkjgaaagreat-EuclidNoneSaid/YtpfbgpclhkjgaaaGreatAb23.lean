/- A part of the proof: an evaluator of programs, its soundness, and what it says of the functions in hand. It holds without further conditions. -/
import Derived.Test.YtpfbgpclhkjgaaaGreatAb18
set_option linter.unusedVariables false
namespace Go.Ab
/-- The table of the functions. -/
inductive Tr where
  | leaf
  | node (k : Nat) (v : IFn) (l r : Tr)

def Tr.get : Tr → Nat → Option IFn
  | .leaf, _ => none
  | .node k v l r, f => if f = k then some v else if f < k then l.get f else r.get f

def Tr.All (P : Program) : Tr → Prop
  | .leaf => True
  | .node k v l r => (∃ F h, P.funcs[k]? = some F ∧ trF P h F = some v) ∧ l.All P ∧ r.All P

theorem Tr.ok {P : Program} : ∀ (t : Tr), t.All P → TabOK P t.get
  | .leaf, _, f, fn, h => by cases h
  | .node k v l r, ha, f, fn, h => by
    simp only [Tr.get] at h
    split at h
    · rename_i e
      injection h with h
      subst e; subst h
      exact ha.1
    · split at h
      · exact l.ok ha.2.1 f fn h
      · exact r.ok ha.2.2 f fn h
end Go.Ab
