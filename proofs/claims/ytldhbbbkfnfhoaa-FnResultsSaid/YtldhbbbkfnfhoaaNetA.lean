/- Contracts of the laws' helpers on slices of slices and on networks: szIntS, szIntSS, szNetwork, toIntSS, toNetwork, eqIntSS, eqNetwork. -/
import Derived.Test.YtldhbbbkfnfhoaaSlice
import Derived.Test.YtldhbbbkfnfhoaaGrid
namespace Go.Proofs.Ytldhbbbkfnfhoaa
open Go.RowKit
set_option linter.unusedVariables false

/-- A fresh slice of fresh rows comes back; nothing that was there has turned. -/
def GivesSS (w : World) (rows : List (List Int)) (en : Ending) (w' : World) : Prop := ∃ v, en = .returned v ∧ OwnSS tInt tInts w' w.heap.size w'.heap.size v rows ∧ Below w.heap.size w w'
/-- A network comes back, its rows fresh; nothing that was there has turned. -/
def GivesNet (w : World) (n : Int) (rows : List (List Int)) (en : Ending) (w' : World) : Prop :=
  ∃ v, en = .returned (.agg #[.int .i64 n, v]) ∧ OwnSS tInt tInts w' w.heap.size w'.heap.size v rows ∧ Below w.heap.size w w'

def szI (n : Nat) (left : Int) : Int := if (n : Int) ≤ left then left - n else -1
def szSS (rows : List (List Int)) (left : Int) : Int := szI (rows.length + sumLen rows) left

end Go.Proofs.Ytldhbbbkfnfhoaa
