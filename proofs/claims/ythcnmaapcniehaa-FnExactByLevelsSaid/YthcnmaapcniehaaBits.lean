/- Plain facts on masks of at most eight bits: ones, shifts, and what the walk's words for Go's operators come to. No program is named. -/
import Derived.Test.YthcnmaapcniehaaKit
namespace Go.Proofs.Ythcnmaapcniehaa
open Go.RowKit
set_option linter.unusedVariables false

/-- The number of ones of a mask of eight bits. -/
def onesN (m : Nat) : Nat := m % 2 + m / 2 % 2 + m / 4 % 2 + m / 8 % 2 + m / 16 % 2 + m / 32 % 2 + m / 64 % 2 + m / 128 % 2

theorem onesN_le (m : Nat) : onesN m ≤ 8 := by unfold onesN; omega
theorem onesN_zero : onesN 0 = 0 := rfl
theorem onesN_half (m : Nat) (h : m < 256) : onesN m = m % 2 + onesN (m / 2) := by unfold onesN; omega

theorem and_one (m : Nat) (h : m < 256) : bits BinOp.and IntKind.i64 (m : Int) 1 = (m : Int) % 2 := by
  have H : ∀ m : Fin 256, bits BinOp.and IntKind.i64 ((m.val : Nat) : Int) 1 = (m.val : Int) % 2 := by decide +kernel
  exact H ⟨m, h⟩

/-- OnesCount64's formula, as the walk spells it. -/
def oc64 (x : Int) : Int :=
  let x1 := IntKind.u64.wrap (bits BinOp.and IntKind.u64 (x / 2) 6148914691236517205 + bits BinOp.and IntKind.u64 x 6148914691236517205)
  let x2 := IntKind.u64.wrap (bits BinOp.and IntKind.u64 (x1 / 4) 3689348814741910323 + bits BinOp.and IntKind.u64 x1 3689348814741910323)
  let x3 := bits BinOp.and IntKind.u64 (IntKind.u64.wrap (x2 / 16 + x2)) 1085102592571150095
  let x4 := IntKind.u64.wrap (x3 + x3 / 256)
  let x5 := IntKind.u64.wrap (x4 + x4 / 65536)
  let x6 := IntKind.u64.wrap (x5 + x5 / 4294967296)
  bits BinOp.and IntKind.i64 (wrap64 x6) 127

theorem oc64_eq (m : Nat) (h : m < 256) : oc64 (m : Int) = (onesN m : Int) := by
  have H : ∀ m : Fin 256, oc64 ((m.val : Nat) : Int) = (onesN m.val : Int) := by decide +kernel
  exact H ⟨m, h⟩

theorem nat_pow_cast (k : Nat) : ((2 ^ k : Nat) : Int) = 2 ^ k := by simp
theorem pow_pos (n : Nat) : (1 : Int) ≤ 2 ^ n := by
  induction n with
  | zero => simp
  | succ n ih => rw [Int.pow_succ]; omega
theorem pow_le8 (n : Nat) (h : n ≤ 8) : (2 : Int) ^ n ≤ 256 := by
  have H : ∀ n : Fin 9, (2 : Int) ^ n.val ≤ 256 := by decide +kernel
  exact H ⟨n, by omega⟩
theorem wrap_pow (n : Nat) (h : n ≤ 8) : wrap64 (2 ^ n) = 2 ^ n :=
  IntWalk.wrap64_in _ ⟨by have := pow_pos n; omega, by have := pow_le8 n h; omega⟩

/-- The sorted mask with k ones of n wires. -/
def sortedN (n k : Nat) : Int := wrap64 ((2 ^ k - 1) * 2 ^ (n - k))


theorem onesN_wires (n m : Nat) (hn : n ≤ 8) (h : (m : Int) < 2 ^ n) : onesN m ≤ n := by
  have H : ∀ n : Fin 9, ∀ m : Fin 256, (m.val : Int) < 2 ^ n.val → onesN m.val ≤ n.val := by decide +kernel
  have hq := pow_le8 n hn
  exact H ⟨n, by omega⟩ ⟨m, by omega⟩ h

theorem onesN_full (k : Nat) (hk : k ≤ 8) : ∃ m : Nat, (2 : Int) ^ k - 1 = (m : Int) ∧ m < 256 ∧ onesN m = k := by
  have H : ∀ k : Fin 9, ∃ m : Fin 256, (2 : Int) ^ k.val - 1 = (m.val : Int) ∧ onesN m.val = k.val := by decide +kernel
  obtain ⟨m, h1, h2⟩ := H ⟨k, by omega⟩
  exact ⟨m.val, h1, m.isLt, h2⟩

def InP (lo n hi : Int) : Prop := lo ≤ n ∧ n ≤ hi

end Go.Proofs.Ythcnmaapcniehaa
