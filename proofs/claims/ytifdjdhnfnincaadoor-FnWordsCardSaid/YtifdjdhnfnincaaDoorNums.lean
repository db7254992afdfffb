/- Contracts of the functions on numbers alone: isWires, isMask, ones, sorted, l03Ones, l03Sorted, SortedMask, IsSortedMask, CountUnsortedMasks. -/
import Derived.Test.YtifdjdhnfnincaaDoorBase
import Derived.Test.YtifdjdhnfnincaaDoorBits
namespace Go.Proofs.YtifdjdhnfnincaaDoor
open Go.RowKit
set_option linter.unusedVariables false




theorem tf_InP_yes {lo n hi : Int} (h1 : lo ≤ n) (h2 : n ≤ hi) : tf (InP lo n hi) = true := tf_yes ⟨h1, h2⟩
theorem tf_InP_no {lo n hi : Int} (h : n < lo ∨ hi < n) : tf (InP lo n hi) = false := tf_no fun ⟨a, b⟩ => by omega

/-- What CountUnsortedMasks returns. -/
def cumN (n : Int) : Int := if 1 ≤ n ∧ n ≤ 8 then 2 ^ n.toNat - n - 1 else -1



/-- What SortedMask returns. -/
def smN (n k : Int) : Int := if (1 ≤ n ∧ n ≤ 8) ∧ 0 ≤ k ∧ k ≤ n then sortedN n.toNat k.toNat else -1



/-- What IsSortedMask says. -/
def IsSm (n m : Int) : Prop := InP 1 n 8 ∧ InP 0 m (2 ^ n.toNat - 1) ∧ m = sortedN n.toNat (onesN m.toNat)



end Go.Proofs.YtifdjdhnfnincaaDoor
