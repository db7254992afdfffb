/- What a standard network is. No program is named. -/
import Derived.Test.YtldhbbbkfnfhoaaPairs
namespace Go.Proofs.Ytldhbbbkfnfhoaa
open Go.RowKit
set_option linter.unusedVariables false

def GtP (p : Nat × Nat) : Prop := p.2 < p.1
def NbP (p : Nat × Nat) : Prop := p.2 ≠ p.1 + 1
/-- Some comparator is such. -/
def SomeP (P : Nat × Nat → Prop) (ps : List (Nat × Nat)) : Prop := ∃ k, ∃ h : k < ps.length, P ps[k]
def IdxP (P : Nat × Nat → Prop) (ps : List (Nat × Nat)) (z : Int) : Prop := (0 ≤ z ↔ SomeP P ps)
def StdP (n : Int) (rows : List (List Int)) : Prop := NetP n rows ∧ ¬ SomeP GtP (pairsOf rows)
def PrimP (n : Int) (rows : List (List Int)) : Prop := StdP n rows ∧ ¬ SomeP NbP (pairsOf rows)
end Go.Proofs.Ytldhbbbkfnfhoaa
