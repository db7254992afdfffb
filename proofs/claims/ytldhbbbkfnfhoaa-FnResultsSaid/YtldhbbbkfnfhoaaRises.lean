/- Contracts: l03Rises, slices.IsSorted on a list of integers: SortsOrder, SortsReverse. -/
import Derived.Test.YtldhbbbkfnfhoaaAppNet2
namespace Go.Proofs.Ytldhbbbkfnfhoaa
open Go.RowKit
set_option linter.unusedVariables false

/-- The list does not fall. -/
def RisesP (xs : List Int) : Prop := ∀ i, i + 1 < xs.length → xs.getD i 0 ≤ xs.getD (i + 1) 0


def LtP (x y : Int) : Prop := x < y
theorem isNaNI (x : Int) (w : World) : Calls Try.prog 84 #[.int .i64 x] w fun e w' => e = .returned (.bool false) ∧ w = w' := by
  go_enter Try.func84, Try.ntmps84
  go_wp2
  go_ret
  exact ⟨by simp, rfl⟩
theorem lessI (x y : Int) (w : World) : Calls Try.prog 73 #[.int .i64 x, .int .i64 y] w fun e w' => e = .returned (.bool (tf (LtP x y))) ∧ w = w' := by
  have HT : Hid (tf (LtP x y) = decide (x < y)) := (tf_congr Iff.rfl).trans (tf_dec (p := x < y))
  go_enter Try.func73, Try.ntmps73
  go_wp2_with (go_at_call 84; refine (isNaNI _ _).mono ?_; rintro e w' ⟨rfl, rfl⟩)
  go_ret
  exact ⟨ret_bool HT.out.symm, rfl⟩


/-- SortsOrder's truth. -/
def SoP (n : Int) (rows : List (List Int)) (xs : List Int) : Prop := ApP n rows xs ∧ RisesP (anN n rows xs)


end Go.Proofs.Ytldhbbbkfnfhoaa
