/- Contracts of the functions on numbers alone: isWires, isMask, ones, sorted, l03Ones, l03Sorted, SortedMask, IsSortedMask, CountUnsortedMasks. -/
import Derived.Test.YtldhbbbkfnfhoaaSlice
import Derived.Test.YtldhbbbkfnfhoaaBits
namespace Go.Proofs.Ytldhbbbkfnfhoaa
open Go.RowKit
set_option linter.unusedVariables false

theorem OnesCount64 (m : Nat) (w : World) (h : m < 256) :
    Calls Try.prog 65 #[.int .u64 m] w fun e w' => e = .returned (.int .i64 (onesN m)) ∧ w = w' := by
  have HE := Lib.hid (oc64_eq m h)
  go_enter Try.func65, Try.ntmps65
  go_wp2
  go_ret
  exact ⟨(ret_int (show _ = oc64 (m : Int) from rfl)).trans (ret_int HE.out), rfl⟩

theorem ones (m : Nat) (w : World) (h : m < 256) :
    Calls Try.prog 33 #[.int .i64 m] w fun e w' => e = .returned (.int .i64 (onesN m)) ∧ w = w' := by
  go_enter Try.func33, Try.ntmps33
  go_wp2_with (first | (go_at_call 65; refine (OnesCount64 m _ h).mono ?_; rintro e w' ⟨rfl, rfl⟩) | go_in)
  go_ret
  exact ⟨rfl, rfl⟩


theorem specIn (n lo hi : Int) (w : World) :
    Calls Try.prog 61 #[.int .i64 n, .int .i64 lo, .int .i64 hi] w fun e w' => e = .returned (.bool (tf (InP lo n hi))) ∧ w = w' := by
  have HR := Lib.hid ((tf_congr (p := InP lo n hi) Iff.rfl).trans (tf_dec (p := lo ≤ n ∧ n ≤ hi)))
  rcases Decidable.em (lo ≤ n) with h1 | h1 <;> rcases Decidable.em (n ≤ hi) with h2 | h2
  all_goals
    go_enter Try.func61, Try.ntmps61
    go_wp2
    go_ret
    exact ⟨ret_bool (by rw [HR.out]; simp; omega), rfl⟩

theorem isWires (n : Int) (w : World) :
    Calls Try.prog 29 #[.int .i64 n] w fun e w' => e = .returned (.bool (tf (InP 1 n 8))) ∧ w = w' := by
  have HR := Lib.hid ((tf_congr (p := InP 1 n 8) Iff.rfl).trans (tf_dec (p := 1 ≤ n ∧ n ≤ 8)))
  rcases Decidable.em (1 ≤ n) with h1 | h1 <;> rcases Decidable.em (n ≤ 8) with h2 | h2
  all_goals
    go_enter Try.func29, Try.ntmps29
    go_wp2
    go_ret
    exact ⟨ret_bool (by rw [HR.out]; simp; omega), rfl⟩

theorem isMask (n : Nat) (m : Int) (w : World) (h8 : n ≤ 8) :
    Calls Try.prog 32 #[.int .i64 n, .int .i64 m] w fun e w' => e = .returned (.bool (tf (InP 0 m (2 ^ n - 1)))) ∧ w = w' := by
  have HR := Lib.hid ((tf_congr (p := InP 0 m (2 ^ n - 1)) Iff.rfl).trans (tf_dec (p := 0 ≤ m ∧ m ≤ 2 ^ n - 1)))
  have hw := wrap_pow n h8
  have hp := pow_pos n
  have hq := pow_le8 n h8
  rcases Decidable.em (0 ≤ m) with h1 | h1 <;> rcases Decidable.em (m < 2 ^ n) with h2 | h2
  all_goals
    go_enter Try.func32, Try.ntmps32
    go_wp2
    go_ret
    exact ⟨ret_bool (by rw [HR.out]; simp; omega), rfl⟩

theorem sorted (n m : Nat) (w : World) (h8 : n ≤ 8) (h0 : m < 256) (hkn : onesN m ≤ n) :
    Calls Try.prog 34 #[.int .i64 n, .int .i64 m] w fun e w' => e = .returned (.int .i64 (sortedN n (onesN m))) ∧ w = w' := by
  have hw := wrap_pow (onesN m) (by omega)
  have hp := pow_pos (onesN m)
  have hq := pow_le8 (onesN m) (by omega)
  go_enter Try.func34, Try.ntmps34
  go_wp2_with (first | (go_at_call 33; refine (ones m _ h0).mono ?_; rintro e w' ⟨rfl, rfl⟩) | go_in)
  go_ret
  exact ⟨rfl, rfl⟩


theorem tf_InP_yes {lo n hi : Int} (h1 : lo ≤ n) (h2 : n ≤ hi) : tf (InP lo n hi) = true := tf_yes ⟨h1, h2⟩
theorem tf_InP_no {lo n hi : Int} (h : n < lo ∨ hi < n) : tf (InP lo n hi) = false := tf_no fun ⟨a, b⟩ => by omega

/-- What CountUnsortedMasks returns. -/
def cumN (n : Int) : Int := if 1 ≤ n ∧ n ≤ 8 then 2 ^ n.toNat - n - 1 else -1



/-- What SortedMask returns. -/
def smN (n k : Int) : Int := if (1 ≤ n ∧ n ≤ 8) ∧ 0 ≤ k ∧ k ≤ n then sortedN n.toNat k.toNat else -1


theorem implSm (n k : Int) (w : World) : Calls Try.prog 14 #[.int .i64 n, .int .i64 k] w fun e w' => e = .returned (.int .i64 (smN n k)) ∧ w = w' := by
  by_cases hn : 1 ≤ n ∧ n ≤ 8
  · have ht := tf_InP_yes hn.1 hn.2
    by_cases hk : 0 ≤ k ∧ k ≤ n
    · obtain ⟨q, hq1, hq2, hq3⟩ := onesN_full k.toNat (by omega)
      obtain ⟨n, rfl⟩ := Int.eq_ofNat_of_zero_le (show 0 ≤ n by omega)
      have HE : Hid (smN n k = sortedN n (onesN q)) := by
        show _ = _; unfold smN; rw [if_pos ⟨hn, hk⟩, hq3]; rfl
      have hw := wrap_pow k.toNat (by omega)
      have hp := pow_pos k.toNat
      have hq := pow_le8 k.toNat (by omega)
      have HQ := Lib.hid hq1
      have hq3' : onesN q ≤ n := by omega
      obtain ⟨h1, h2⟩ := hn
      obtain ⟨h3, h4⟩ := hk
      clear hq3 hq1
      go_enter Try.func14, Try.ntmps14
      go_wp2_with (go_at_call 29; refine (isWires _ _).mono ?_; rintro e w' ⟨rfl, rfl⟩)
      go_wp2_with fail
      rw [HQ.out]
      refine (sorted n q _ (by omega) hq2 hq3').mono ?_
      rintro e w' ⟨rfl, rfl⟩
      go_wp2
      go_ret
      exact ⟨ret_int HE.out.symm, rfl⟩
    · have HE : Hid (smN n k = -1) := by show _ = _; unfold smN; rw [if_neg (fun h => hk h.2)]
      rcases Decidable.em (k < 0) with h1 | h1
      · clear hk hn
        go_enter Try.func14, Try.ntmps14
        go_wp2_with (go_at_call 29; refine (isWires _ _).mono ?_; rintro e w' ⟨rfl, rfl⟩)
        go_ret
        exact ⟨ret_int HE.out.symm, rfl⟩
      · have h2 : n < k := by omega
        clear hk hn
        go_enter Try.func14, Try.ntmps14
        go_wp2_with (go_at_call 29; refine (isWires _ _).mono ?_; rintro e w' ⟨rfl, rfl⟩)
        go_ret
        exact ⟨ret_int HE.out.symm, rfl⟩
  · have HE : Hid (smN n k = -1) := by show _ = _; unfold smN; rw [if_neg (fun h => hn h.1)]
    have ht := tf_InP_no (lo := 1) (n := n) (hi := 8) (by omega)
    clear hn
    go_enter Try.func14, Try.ntmps14
    go_wp2_with (go_at_call 29; refine (isWires _ _).mono ?_; rintro e w' ⟨rfl, rfl⟩)
    go_ret
    exact ⟨ret_int HE.out.symm, rfl⟩

/-- What IsSortedMask says. -/
def IsSm (n m : Int) : Prop := InP 1 n 8 ∧ InP 0 m (2 ^ n.toNat - 1) ∧ m = sortedN n.toNat (onesN m.toNat)



end Go.Proofs.Ytldhbbbkfnfhoaa
