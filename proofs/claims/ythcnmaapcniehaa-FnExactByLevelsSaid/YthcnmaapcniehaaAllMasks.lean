/- Contracts: AllMasks, the program's and the reference's: a fresh slice of all masks, or nil. -/
import Derived.Test.YthcnmaapcniehaaNums
import Derived.Test.YthcnmaapcniehaaSlice
namespace Go.Proofs.Ythcnmaapcniehaa
open Go.RowKit
set_option linter.unusedVariables false

/-- The numbers from 0 up to n. -/
def upto (n : Nat) : List Int := (List.range n).map fun (i : Nat) => (i : Int)
theorem upto_succ (n : Nat) : upto (n + 1) = upto n ++ [(n : Int)] := by simp [upto, List.range_succ]
theorem upto_length (n : Nat) : (upto n).length = n := by simp [upto]

theorem OwnI.snoc {e : TypeId} {w : World} {lo hi : Nat} {v : Value} {xs : List Int} {x : Int} (h : Own e w lo hi v (xs.map (Value.int .i64) ++ [.int .i64 x])) (hx : ∀ y ∈ xs, In64 y) (h1 : In64 x) : OwnI e w lo hi v (xs ++ [x]) :=
  ⟨by rw [List.map_append]; exact h, fun y hy => by rcases List.mem_append.1 hy with h | h; exact hx y h; simp at h; subst h; exact h1⟩


/-- What AllMasks returns. -/
def allN (n : Int) : List Int := if 1 ≤ n ∧ n ≤ 8 then upto (2 ^ n.toNat) else []
theorem allN_le (n : Int) : (allN n).length ≤ 256 := by
  unfold allN; split
  · rw [upto_length]; exact Nat.le_trans (Nat.pow_le_pow_right (by omega) (show n.toNat ≤ 8 by omega)) (by decide)
  · simp

theorem givesI_nil (w : World) : GivesI w [] (.returned (.slice none 0 0)) w := ⟨_, rfl, ⟨Own.nil _ _ _ _, by simp⟩, Below.refl _ _⟩

end Go.Proofs.Ythcnmaapcniehaa
