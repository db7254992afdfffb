/- Contracts of the functions on numbers alone: isWires, isMask, ones, sorted, l03Ones, l03Sorted, SortedMask, IsSortedMask, CountUnsortedMasks. -/
import Derived.Test.YtjinaiggpngieaaBase
import Derived.Test.YtjinaiggpngieaaBits
namespace Go.Proofs.Ytjinaiggpngieaa
open Go.RowKit
set_option linter.unusedVariables false

theorem OnesCount64 (m : Nat) (w : World) (h : m < 256) :
    Calls Try.prog 57 #[.int .u64 m] w fun e w' => e = .returned (.int .i64 (onesN m)) ∧ w = w' := by
  have HE := Lib.hid (oc64_eq m h)
  go_enter Try.func57, Try.ntmps57
  go_wp2
  go_ret
  exact ⟨(ret_int (show _ = oc64 (m : Int) from rfl)).trans (ret_int HE.out), rfl⟩

theorem ones (m : Nat) (w : World) (h : m < 256) :
    Calls Try.prog 36 #[.int .i64 m] w fun e w' => e = .returned (.int .i64 (onesN m)) ∧ w = w' := by
  go_enter Try.func36, Try.ntmps36
  go_wp2_with (first | (go_at_call 57; refine (OnesCount64 m _ h).mono ?_; rintro e w' ⟨rfl, rfl⟩) | go_in)
  go_ret
  exact ⟨rfl, rfl⟩


theorem isWires (n : Int) (w : World) :
    Calls Try.prog 29 #[.int .i64 n] w fun e w' => e = .returned (.bool (tf (InP 1 n 8))) ∧ w = w' := by
  have HR := Lib.hid ((tf_congr (p := InP 1 n 8) Iff.rfl).trans (tf_dec (p := 1 ≤ n ∧ n ≤ 8)))
  rcases Decidable.em (1 ≤ n) with h1 | h1 <;> rcases Decidable.em (n ≤ 8) with h2 | h2
  all_goals
    go_enter Try.func29, Try.ntmps29
    go_wp2
    go_ret
    exact ⟨ret_bool (by rw [HR.out]; simp; omega), rfl⟩

theorem isMask (n : Nat) (m : Int) (w : World) (h8 : n ≤ 8) :
    Calls Try.prog 31 #[.int .i64 n, .int .i64 m] w fun e w' => e = .returned (.bool (tf (InP 0 m (2 ^ n - 1)))) ∧ w = w' := by
  have HR := Lib.hid ((tf_congr (p := InP 0 m (2 ^ n - 1)) Iff.rfl).trans (tf_dec (p := 0 ≤ m ∧ m ≤ 2 ^ n - 1)))
  have hw := wrap_pow n h8
  have hp := pow_pos n
  have hq := pow_le8 n h8
  rcases Decidable.em (0 ≤ m) with h1 | h1 <;> rcases Decidable.em (m < 2 ^ n) with h2 | h2
  all_goals
    go_enter Try.func31, Try.ntmps31
    go_wp2
    go_ret
    exact ⟨ret_bool (by rw [HR.out]; simp; omega), rfl⟩

theorem sorted (n m : Nat) (w : World) (h8 : n ≤ 8) (h0 : m < 256) (hkn : onesN m ≤ n) :
    Calls Try.prog 39 #[.int .i64 n, .int .i64 m] w fun e w' => e = .returned (.int .i64 (sortedN n (onesN m))) ∧ w = w' := by
  have hw := wrap_pow (onesN m) (by omega)
  have hp := pow_pos (onesN m)
  have hq := pow_le8 (onesN m) (by omega)
  go_enter Try.func39, Try.ntmps39
  go_wp2_with (first | (go_at_call 36; refine (ones m _ h0).mono ?_; rintro e w' ⟨rfl, rfl⟩) | go_in)
  go_ret
  exact ⟨rfl, rfl⟩


theorem tf_InP_yes {lo n hi : Int} (h1 : lo ≤ n) (h2 : n ≤ hi) : tf (InP lo n hi) = true := tf_yes ⟨h1, h2⟩
theorem tf_InP_no {lo n hi : Int} (h : n < lo ∨ hi < n) : tf (InP lo n hi) = false := tf_no fun ⟨a, b⟩ => by omega

/-- What CountUnsortedMasks returns. -/
def cumN (n : Int) : Int := if 1 ≤ n ∧ n ≤ 8 then 2 ^ n.toNat - n - 1 else -1


theorem implCum (n : Int) (w : World) : Calls Try.prog 18 #[.int .i64 n] w fun e w' => e = .returned (.int .i64 (cumN n)) ∧ w = w' := by
  by_cases h : 1 ≤ n ∧ n ≤ 8
  · have HE : Hid (cumN n = 2 ^ n.toNat - n - 1) := by show _ = _; unfold cumN; rw [if_pos h]
    have hw := wrap_pow n.toNat (by omega)
    have hp := pow_pos n.toNat
    have hq := pow_le8 n.toNat (by omega)
    have ht := tf_InP_yes h.1 h.2
    obtain ⟨h1, h2⟩ := h
    go_enter Try.func18, Try.ntmps18
    go_wp2_with (go_at_call 29; refine (isWires _ _).mono ?_; rintro e w' ⟨rfl, rfl⟩)
    go_ret
    exact ⟨ret_int HE.out.symm, rfl⟩
  · have HE : Hid (cumN n = -1) := by show _ = _; unfold cumN; rw [if_neg h]
    have ht := tf_InP_no (lo := 1) (n := n) (hi := 8) (by omega)
    clear h
    go_enter Try.func18, Try.ntmps18
    go_wp2_with (go_at_call 29; refine (isWires _ _).mono ?_; rintro e w' ⟨rfl, rfl⟩)
    go_ret
    exact ⟨ret_int HE.out.symm, rfl⟩

/-- What SortedMask returns. -/
def smN (n k : Int) : Int := if (1 ≤ n ∧ n ≤ 8) ∧ 0 ≤ k ∧ k ≤ n then sortedN n.toNat k.toNat else -1



/-- What IsSortedMask says. -/
def IsSm (n m : Int) : Prop := InP 1 n 8 ∧ InP 0 m (2 ^ n.toNat - 1) ∧ m = sortedN n.toNat (onesN m.toNat)


theorem implIsSm (n m : Int) (w : World) : Calls Try.prog 22 #[.int .i64 n, .int .i64 m] w fun e w' => e = .returned (.bool (tf (IsSm n m))) ∧ w = w' := by
  by_cases hn : 1 ≤ n ∧ n ≤ 8
  · have ht := tf_InP_yes hn.1 hn.2
    obtain ⟨n, rfl⟩ := Int.eq_ofNat_of_zero_le (show 0 ≤ n by omega)
    have hw := wrap_pow n (by omega)
    have hp := pow_pos n
    have hq := pow_le8 n (by omega)
    by_cases hk : 0 ≤ m ∧ m ≤ 2 ^ n - 1
    · have ht2 := tf_InP_yes hk.1 hk.2
      obtain ⟨m, rfl⟩ := Int.eq_ofNat_of_zero_le (show 0 ≤ m by omega)
      have HE : Hid (tf (IsSm n m) = decide ((m : Int) = sortedN n (onesN m))) := (tf_congr ⟨fun h => h.2.2, fun h => ⟨hn, hk, h⟩⟩).trans tf_dec
      have hm : m < 256 := by omega
      have ho := onesN_wires n m (by omega) (by omega)
      obtain ⟨h1, h2⟩ := hn
      obtain ⟨h3, h4⟩ := hk
      go_enter Try.func22, Try.ntmps22
      go_wp2_with (first | (go_at_call 29; refine (isWires _ _).mono ?_; rintro e w' ⟨rfl, rfl⟩) | (go_at_call 31; refine (isMask n _ _ (by omega)).mono ?_; rintro e w' ⟨rfl, rfl⟩) | (go_at_call 39; refine (sorted n m _ (by omega) hm ho).mono ?_; rintro e w' ⟨rfl, rfl⟩))
      go_ret
      exact ⟨ret_bool (by rw [HE.out]; rfl), rfl⟩
    · have HE : Hid (tf (IsSm n m) = false) := tf_no fun h => hk h.2.1
      have ht2 := tf_InP_no (lo := 0) (n := m) (hi := 2 ^ n - 1) (by omega)
      obtain ⟨h1, h2⟩ := hn
      clear hk
      go_enter Try.func22, Try.ntmps22
      go_wp2_with (first | (go_at_call 29; refine (isWires _ _).mono ?_; rintro e w' ⟨rfl, rfl⟩) | (go_at_call 31; refine (isMask n _ _ (by omega)).mono ?_; rintro e w' ⟨rfl, rfl⟩))
      go_ret
      exact ⟨ret_bool HE.out.symm, rfl⟩
  · have HE : Hid (tf (IsSm n m) = false) := tf_no fun h => hn h.1
    have ht := tf_InP_no (lo := 1) (n := n) (hi := 8) (by omega)
    clear hn
    go_enter Try.func22, Try.ntmps22
    go_wp2_with (go_at_call 29; refine (isWires _ _).mono ?_; rintro e w' ⟨rfl, rfl⟩)
    go_ret
    exact ⟨ret_bool HE.out.symm, rfl⟩

end Go.Proofs.Ytjinaiggpngieaa
