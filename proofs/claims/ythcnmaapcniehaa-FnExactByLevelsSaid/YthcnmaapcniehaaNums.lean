/- Contracts of the functions on numbers alone: isWires, isMask, ones, sorted, l03Ones, l03Sorted, SortedMask, IsSortedMask, CountUnsortedMasks. -/
import Derived.Test.YthcnmaapcniehaaBase
import Derived.Test.YthcnmaapcniehaaBits
namespace Go.Proofs.Ythcnmaapcniehaa
open Go.RowKit
set_option linter.unusedVariables false




theorem specIn (n lo hi : Int) (w : World) :
    Calls Try.prog 28 #[.int .i64 n, .int .i64 lo, .int .i64 hi] w fun e w' => e = .returned (.bool (tf (InP lo n hi))) ∧ w = w' := by
  have HR := Lib.hid ((tf_congr (p := InP lo n hi) Iff.rfl).trans (tf_dec (p := lo ≤ n ∧ n ≤ hi)))
  rcases Decidable.em (lo ≤ n) with h1 | h1 <;> rcases Decidable.em (n ≤ hi) with h2 | h2
  all_goals
    go_enter Try.func28, Try.ntmps28
    go_wp2
    go_ret
    exact ⟨ret_bool (by rw [HR.out]; simp; omega), rfl⟩

theorem isWires (n : Int) (w : World) :
    Calls Try.prog 30 #[.int .i64 n] w fun e w' => e = .returned (.bool (tf (InP 1 n 8))) ∧ w = w' := by
  have HR := Lib.hid ((tf_congr (p := InP 1 n 8) Iff.rfl).trans (tf_dec (p := 1 ≤ n ∧ n ≤ 8)))
  rcases Decidable.em (1 ≤ n) with h1 | h1 <;> rcases Decidable.em (n ≤ 8) with h2 | h2
  all_goals
    go_enter Try.func30, Try.ntmps30
    go_wp2
    go_ret
    exact ⟨ret_bool (by rw [HR.out]; simp; omega), rfl⟩




theorem tf_InP_yes {lo n hi : Int} (h1 : lo ≤ n) (h2 : n ≤ hi) : tf (InP lo n hi) = true := tf_yes ⟨h1, h2⟩
theorem tf_InP_no {lo n hi : Int} (h : n < lo ∨ hi < n) : tf (InP lo n hi) = false := tf_no fun ⟨a, b⟩ => by omega

/-- What CountUnsortedMasks returns. -/
def cumN (n : Int) : Int := if 1 ≤ n ∧ n ≤ 8 then 2 ^ n.toNat - n - 1 else -1



/-- What SortedMask returns. -/
def smN (n k : Int) : Int := if (1 ≤ n ∧ n ≤ 8) ∧ 0 ≤ k ∧ k ≤ n then sortedN n.toNat k.toNat else -1



/-- What IsSortedMask says. -/
def IsSm (n m : Int) : Prop := InP 1 n 8 ∧ InP 0 m (2 ^ n.toNat - 1) ∧ m = sortedN n.toNat (onesN m.toNat)



end Go.Proofs.Ythcnmaapcniehaa
