/- Contracts of the laws' helpers on slices of strings: szStringS, toStringS, eqStringS. -/
import Derived.Test.YtifdjdhnfnincaaDoorBase
import Derived.Test.YtifdjdhnfnincaaDoorGrid
namespace Go.Proofs.YtifdjdhnfnincaaDoor
open Go.RowKit
set_option linter.unusedVariables false

def sumSize (xs : List ByteArray) : Nat := (xs.map ByteArray.size).sum
theorem sumSize_take_succ (xs : List ByteArray) (k : Nat) (h : k < xs.length) : sumSize (xs.take (k + 1)) = sumSize (xs.take k) + xs[k].size := by
  unfold sumSize; rw [List.take_succ_eq_append_getElem h, List.map_append, List.sum_append]; simp
theorem size_le_sumSize (xs : List ByteArray) (k : Nat) (h : k < xs.length) : sumSize (xs.take k) + xs[k].size ≤ sumSize xs := by
  rw [← sumSize_take_succ xs k h]
  unfold sumSize
  conv => rhs; rw [← List.take_append_drop (k + 1) xs, List.map_append, List.sum_append]
  omega
def szT (xs : List ByteArray) (left : Int) : Int := if ((xs.length + sumSize xs : Nat) : Int) ≤ left then left - (xs.length + sumSize xs : Nat) else -1

/-- A fresh slice of strings comes back; nothing that was there has turned. -/
def GivesSs (w : World) (xs : List ByteArray) (en : Ending) (w' : World) : Prop := ∃ v, en = .returned v ∧ OwnS tStr w' w.heap.size w'.heap.size v xs ∧ Below w.heap.size w w'

end Go.Proofs.YtifdjdhnfnincaaDoor
