/- Contracts of the functions on numbers alone: isWires, isMask, ones, sorted, l03Ones, l03Sorted, SortedMask, IsSortedMask, CountUnsortedMasks. -/
import Derived.Test.YtalkcpfahefajaaBase
import Derived.Test.YtalkcpfahefajaaBits
namespace Go.Proofs.Ytalkcpfahefajaa
open Go.RowKit
set_option linter.unusedVariables false



theorem l03Ones (m : Nat) (w : World) (h : m < 256) :
    Calls Try.prog 55 #[.int .i64 m] w fun e w' => e = .returned (.int .i64 (onesN m)) ∧ w = w' := by
  go_enter Try.func55, Try.ntmps55
  go_wp2
  go_loop [0, 3] (fun a b => ∃ k q : Nat, q < 256 ∧ k ≤ 8 ∧ a = .int .i64 q ∧ b = .int .i64 k ∧ Hid (k + onesN q = onesN m)) (fun a b => (intOf a).toNat)
  case atStart => exact ⟨0, m, h, by omega, rfl, rfl, by show 0 + _ = _; omega⟩
  case round =>
    obtain ⟨k, q, hq, hk, rfl, rfl, HK⟩ := hrel
    by_cases h0 : 0 < q
    · have hb := and_one q hq
      have hh := Lib.hid (onesN_half q hq)
      have hl : k + q % 2 ≤ 8 := by have := onesN_le m; have := HK.out; have := hh.out; omega
      go_wp2
      go_round
      case rel => exact ⟨k + q % 2, q / 2, by omega, hl, by go_num, by go_num, by have := HK.out; have := hh.out; show _ = _; omega⟩
      case measure => simp [intOf]; omega
    · obtain rfl : q = 0 := by omega
      have e := Lib.hid HK.out
      go_wp2
      go_ret
      exact ⟨ret_int (by have := e.out; rw [onesN_zero] at this; omega), rfl⟩

theorem specIn (n lo hi : Int) (w : World) :
    Calls Try.prog 32 #[.int .i64 n, .int .i64 lo, .int .i64 hi] w fun e w' => e = .returned (.bool (tf (InP lo n hi))) ∧ w = w' := by
  have HR := Lib.hid ((tf_congr (p := InP lo n hi) Iff.rfl).trans (tf_dec (p := lo ≤ n ∧ n ≤ hi)))
  rcases Decidable.em (lo ≤ n) with h1 | h1 <;> rcases Decidable.em (n ≤ hi) with h2 | h2
  all_goals
    go_enter Try.func32, Try.ntmps32
    go_wp2
    go_ret
    exact ⟨ret_bool (by rw [HR.out]; simp; omega), rfl⟩

theorem isWires (n : Int) (w : World) :
    Calls Try.prog 45 #[.int .i64 n] w fun e w' => e = .returned (.bool (tf (InP 1 n 8))) ∧ w = w' := by
  have HR := Lib.hid ((tf_congr (p := InP 1 n 8) Iff.rfl).trans (tf_dec (p := 1 ≤ n ∧ n ≤ 8)))
  rcases Decidable.em (1 ≤ n) with h1 | h1 <;> rcases Decidable.em (n ≤ 8) with h2 | h2
  all_goals
    go_enter Try.func45, Try.ntmps45
    go_wp2
    go_ret
    exact ⟨ret_bool (by rw [HR.out]; simp; omega), rfl⟩

theorem isMask (n : Nat) (m : Int) (w : World) (h8 : n ≤ 8) :
    Calls Try.prog 46 #[.int .i64 n, .int .i64 m] w fun e w' => e = .returned (.bool (tf (InP 0 m (2 ^ n - 1)))) ∧ w = w' := by
  have HR := Lib.hid ((tf_congr (p := InP 0 m (2 ^ n - 1)) Iff.rfl).trans (tf_dec (p := 0 ≤ m ∧ m ≤ 2 ^ n - 1)))
  have hw := wrap_pow n h8
  have hp := pow_pos n
  have hq := pow_le8 n h8
  rcases Decidable.em (0 ≤ m) with h1 | h1 <;> rcases Decidable.em (m < 2 ^ n) with h2 | h2
  all_goals
    go_enter Try.func46, Try.ntmps46
    go_wp2
    go_ret
    exact ⟨ret_bool (by rw [HR.out]; simp; omega), rfl⟩



theorem tf_InP_yes {lo n hi : Int} (h1 : lo ≤ n) (h2 : n ≤ hi) : tf (InP lo n hi) = true := tf_yes ⟨h1, h2⟩
theorem tf_InP_no {lo n hi : Int} (h : n < lo ∨ hi < n) : tf (InP lo n hi) = false := tf_no fun ⟨a, b⟩ => by omega

/-- What CountUnsortedMasks returns. -/
def cumN (n : Int) : Int := if 1 ≤ n ∧ n ≤ 8 then 2 ^ n.toNat - n - 1 else -1



/-- What SortedMask returns. -/
def smN (n k : Int) : Int := if (1 ≤ n ∧ n ≤ 8) ∧ 0 ≤ k ∧ k ≤ n then sortedN n.toNat k.toNat else -1



/-- What IsSortedMask says. -/
def IsSm (n m : Int) : Prop := InP 1 n 8 ∧ InP 0 m (2 ^ n.toNat - 1) ∧ m = sortedN n.toNat (onesN m.toNat)



end Go.Proofs.Ytalkcpfahefajaa
