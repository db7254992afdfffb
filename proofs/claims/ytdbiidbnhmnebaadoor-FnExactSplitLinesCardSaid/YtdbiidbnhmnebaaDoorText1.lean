/- Contracts: IsDigits and IsName, the program's and the reference's: each returns the truth value of one statement on the bytes. -/
import Derived.Test.YtdbiidbnhmnebaaDoorNums
namespace Go.Proofs.YtdbiidbnhmnebaaDoor
open Go.RowKit
set_option linter.unusedVariables false

def DigitsOk (s : ByteArray) : Prop := (∀ j (h : j < s.size), 48 ≤ (s[j].toNat : Int) ∧ (s[j].toNat : Int) ≤ 57) ∧ 0 < s.size

theorem nonempty_iff (s : ByteArray) : (!s.toList.isEmpty) = decide (0 < s.size) := by
  have h : s.toList.length = s.size := by rw [ByteArray.toList_eq]; rfl
  rw [← h]; cases s.toList <;> simp

def Good (j : Nat) (c : Int) : Prop := (97 ≤ c ∧ c ≤ 122) ∨ (j ≠ 0 ∧ 48 ≤ c ∧ c ≤ 57)
def NameOk (s : ByteArray) : Prop := (∀ j (h : j < s.size), Good j (s[j].toNat : Int)) ∧ 1 ≤ s.size ∧ s.size ≤ 8

theorem good_snoc {s : ByteArray} {k : Nat} {hlt : k < s.size} (HA : Hid (∀ j (h : j < s.size), j < k → Good j (s[j].toNat : Int))) (hd : Good k (s[k].toNat : Int)) :
    Hid (∀ j (h : j < s.size), j < k + 1 → Good j (s[j].toNat : Int)) := by
  intro j h hj
  rcases Nat.lt_or_ge j k with h1 | h1
  · exact HA j h h1
  · obtain rfl : j = k := by omega
    exact hd

/-- The ways through one round of IsName: in the walk's own spelling. -/
theorem name_ways (k : Nat) (c : Int) : (97 ≤ c ∧ c ≤ 122 ∧ Good k c) ∨ (((k : Int) == 0) = false ∧ 48 ≤ c ∧ c ≤ 57 ∧ c < 97 ∧ Good k c) ∨
    (c < 97 ∧ ((k : Int) == 0) = true ∧ ¬ Good k c) ∨ (c < 97 ∧ ((k : Int) == 0) = false ∧ c < 48 ∧ ¬ Good k c) ∨ (c < 97 ∧ ((k : Int) == 0) = false ∧ 48 ≤ c ∧ 57 < c ∧ ¬ Good k c) ∨
    (97 ≤ c ∧ 122 < c ∧ ((k : Int) == 0) = true ∧ ¬ Good k c) ∨ (97 ≤ c ∧ 122 < c ∧ ((k : Int) == 0) = false ∧ 48 ≤ c ∧ 57 < c ∧ ¬ Good k c) := by
  unfold Good
  rw [beq_iff_eq, beq_eq_false_iff_ne]
  omega

end Go.Proofs.YtdbiidbnhmnebaaDoor
