/- Contracts of the functions on numbers alone: isWires, isMask, ones, sorted, l03Ones, l03Sorted, SortedMask, IsSortedMask, CountUnsortedMasks. -/
import Derived.Test.YtjcgehnjhmnehaaBase
import Derived.Test.YtjcgehnjhmnehaaBits
namespace Go.Proofs.Ytjcgehnjhmnehaa
open Go.RowKit
set_option linter.unusedVariables false

theorem OnesCount64 (m : Nat) (w : World) (h : m < 256) :
    Calls Try.prog 227 #[.int .u64 m] w fun e w' => e = .returned (.int .i64 (onesN m)) ∧ w = w' := by
  have HE := Lib.hid (oc64_eq m h)
  go_enter Try.func227, Try.ntmps227
  go_wp2
  go_ret
  exact ⟨(ret_int (show _ = oc64 (m : Int) from rfl)).trans (ret_int HE.out), rfl⟩

theorem ones (m : Nat) (w : World) (h : m < 256) :
    Calls Try.prog 146 #[.int .i64 m] w fun e w' => e = .returned (.int .i64 (onesN m)) ∧ w = w' := by
  go_enter Try.func146, Try.ntmps146
  go_wp2_with (first | (go_at_call 227; refine (OnesCount64 m _ h).mono ?_; rintro e w' ⟨rfl, rfl⟩) | go_in)
  go_ret
  exact ⟨rfl, rfl⟩

theorem l03Ones (m : Nat) (w : World) (h : m < 256) :
    Calls Try.prog 212 #[.int .i64 m] w fun e w' => e = .returned (.int .i64 (onesN m)) ∧ w = w' := by
  go_enter Try.func212, Try.ntmps212
  go_wp2
  go_loop [0, 3] (fun a b => ∃ k q : Nat, q < 256 ∧ k ≤ 8 ∧ a = .int .i64 q ∧ b = .int .i64 k ∧ Hid (k + onesN q = onesN m)) (fun a b => (intOf a).toNat)
  case atStart => exact ⟨0, m, h, by omega, rfl, rfl, by show 0 + _ = _; omega⟩
  case round =>
    obtain ⟨k, q, hq, hk, rfl, rfl, HK⟩ := hrel
    by_cases h0 : 0 < q
    · have hb := and_one q hq
      have hh := Lib.hid (onesN_half q hq)
      have hl : k + q % 2 ≤ 8 := by have := onesN_le m; have := HK.out; have := hh.out; omega
      go_wp2
      go_round
      case rel => exact ⟨k + q % 2, q / 2, by omega, hl, by go_num, by go_num, by have := HK.out; have := hh.out; show _ = _; omega⟩
      case measure => simp [intOf]; omega
    · obtain rfl : q = 0 := by omega
      have e := Lib.hid HK.out
      go_wp2
      go_ret
      exact ⟨ret_int (by have := e.out; rw [onesN_zero] at this; omega), rfl⟩

theorem specIn (n lo hi : Int) (w : World) :
    Calls Try.prog 156 #[.int .i64 n, .int .i64 lo, .int .i64 hi] w fun e w' => e = .returned (.bool (tf (InP lo n hi))) ∧ w = w' := by
  have HR := Lib.hid ((tf_congr (p := InP lo n hi) Iff.rfl).trans (tf_dec (p := lo ≤ n ∧ n ≤ hi)))
  rcases Decidable.em (lo ≤ n) with h1 | h1 <;> rcases Decidable.em (n ≤ hi) with h2 | h2
  all_goals
    go_enter Try.func156, Try.ntmps156
    go_wp2
    go_ret
    exact ⟨ret_bool (by rw [HR.out]; simp; omega), rfl⟩

theorem isWires (n : Int) (w : World) :
    Calls Try.prog 139 #[.int .i64 n] w fun e w' => e = .returned (.bool (tf (InP 1 n 8))) ∧ w = w' := by
  have HR := Lib.hid ((tf_congr (p := InP 1 n 8) Iff.rfl).trans (tf_dec (p := 1 ≤ n ∧ n ≤ 8)))
  rcases Decidable.em (1 ≤ n) with h1 | h1 <;> rcases Decidable.em (n ≤ 8) with h2 | h2
  all_goals
    go_enter Try.func139, Try.ntmps139
    go_wp2
    go_ret
    exact ⟨ret_bool (by rw [HR.out]; simp; omega), rfl⟩

theorem isMask (n : Nat) (m : Int) (w : World) (h8 : n ≤ 8) :
    Calls Try.prog 141 #[.int .i64 n, .int .i64 m] w fun e w' => e = .returned (.bool (tf (InP 0 m (2 ^ n - 1)))) ∧ w = w' := by
  have HR := Lib.hid ((tf_congr (p := InP 0 m (2 ^ n - 1)) Iff.rfl).trans (tf_dec (p := 0 ≤ m ∧ m ≤ 2 ^ n - 1)))
  have hw := wrap_pow n h8
  have hp := pow_pos n
  have hq := pow_le8 n h8
  rcases Decidable.em (0 ≤ m) with h1 | h1 <;> rcases Decidable.em (m < 2 ^ n) with h2 | h2
  all_goals
    go_enter Try.func141, Try.ntmps141
    go_wp2
    go_ret
    exact ⟨ret_bool (by rw [HR.out]; simp; omega), rfl⟩

theorem sorted (n m : Nat) (w : World) (h8 : n ≤ 8) (h0 : m < 256) (hkn : onesN m ≤ n) :
    Calls Try.prog 149 #[.int .i64 n, .int .i64 m] w fun e w' => e = .returned (.int .i64 (sortedN n (onesN m))) ∧ w = w' := by
  have hw := wrap_pow (onesN m) (by omega)
  have hp := pow_pos (onesN m)
  have hq := pow_le8 (onesN m) (by omega)
  go_enter Try.func149, Try.ntmps149
  go_wp2_with (first | (go_at_call 146; refine (ones m _ h0).mono ?_; rintro e w' ⟨rfl, rfl⟩) | go_in)
  go_ret
  exact ⟨rfl, rfl⟩

theorem l03Sorted (n m : Nat) (w : World) (h8 : n ≤ 8) (h0 : m < 256) (hkn : onesN m ≤ n) :
    Calls Try.prog 184 #[.int .i64 n, .int .i64 m] w fun e w' => e = .returned (.bool (tf ((m : Int) = sortedN n (onesN m)))) ∧ w = w' := by
  have HR := Lib.hid (tf_dec (p := (m : Int) = sortedN n (onesN m)))
  have hw := wrap_pow (onesN m) (by omega)
  have hp := pow_pos (onesN m)
  have hq := pow_le8 (onesN m) (by omega)
  go_enter Try.func184, Try.ntmps184
  go_wp2_with (first | (go_at_call 212; refine (l03Ones m _ h0).mono ?_; rintro e w' ⟨rfl, rfl⟩) | go_in)
  go_ret
  exact ⟨ret_bool (by rw [HR.out]; rfl), rfl⟩

theorem tf_InP_yes {lo n hi : Int} (h1 : lo ≤ n) (h2 : n ≤ hi) : tf (InP lo n hi) = true := tf_yes ⟨h1, h2⟩
theorem tf_InP_no {lo n hi : Int} (h : n < lo ∨ hi < n) : tf (InP lo n hi) = false := tf_no fun ⟨a, b⟩ => by omega

/-- What CountUnsortedMasks returns. -/
def cumN (n : Int) : Int := if 1 ≤ n ∧ n ≤ 8 then 2 ^ n.toNat - n - 1 else -1


theorem implCum (n : Int) (w : World) : Calls Try.prog 52 #[.int .i64 n] w fun e w' => e = .returned (.int .i64 (cumN n)) ∧ w = w' := by
  by_cases h : 1 ≤ n ∧ n ≤ 8
  · have HE : Hid (cumN n = 2 ^ n.toNat - n - 1) := by show _ = _; unfold cumN; rw [if_pos h]
    have hw := wrap_pow n.toNat (by omega)
    have hp := pow_pos n.toNat
    have hq := pow_le8 n.toNat (by omega)
    have ht := tf_InP_yes h.1 h.2
    obtain ⟨h1, h2⟩ := h
    go_enter Try.func52, Try.ntmps52
    go_wp2_with (go_at_call 139; refine (isWires _ _).mono ?_; rintro e w' ⟨rfl, rfl⟩)
    go_ret
    exact ⟨ret_int HE.out.symm, rfl⟩
  · have HE : Hid (cumN n = -1) := by show _ = _; unfold cumN; rw [if_neg h]
    have ht := tf_InP_no (lo := 1) (n := n) (hi := 8) (by omega)
    clear h
    go_enter Try.func52, Try.ntmps52
    go_wp2_with (go_at_call 139; refine (isWires _ _).mono ?_; rintro e w' ⟨rfl, rfl⟩)
    go_ret
    exact ⟨ret_int HE.out.symm, rfl⟩

/-- What SortedMask returns. -/
def smN (n k : Int) : Int := if (1 ≤ n ∧ n ≤ 8) ∧ 0 ≤ k ∧ k ≤ n then sortedN n.toNat k.toNat else -1


theorem implSm (n k : Int) (w : World) : Calls Try.prog 133 #[.int .i64 n, .int .i64 k] w fun e w' => e = .returned (.int .i64 (smN n k)) ∧ w = w' := by
  by_cases hn : 1 ≤ n ∧ n ≤ 8
  · have ht := tf_InP_yes hn.1 hn.2
    by_cases hk : 0 ≤ k ∧ k ≤ n
    · obtain ⟨q, hq1, hq2, hq3⟩ := onesN_full k.toNat (by omega)
      obtain ⟨n, rfl⟩ := Int.eq_ofNat_of_zero_le (show 0 ≤ n by omega)
      have HE : Hid (smN n k = sortedN n (onesN q)) := by
        show _ = _; unfold smN; rw [if_pos ⟨hn, hk⟩, hq3]; rfl
      have hw := wrap_pow k.toNat (by omega)
      have hp := pow_pos k.toNat
      have hq := pow_le8 k.toNat (by omega)
      have HQ := Lib.hid hq1
      have hq3' : onesN q ≤ n := by omega
      obtain ⟨h1, h2⟩ := hn
      obtain ⟨h3, h4⟩ := hk
      clear hq3 hq1
      go_enter Try.func133, Try.ntmps133
      go_wp2_with (go_at_call 139; refine (isWires _ _).mono ?_; rintro e w' ⟨rfl, rfl⟩)
      go_wp2_with fail
      rw [HQ.out]
      refine (sorted n q _ (by omega) hq2 hq3').mono ?_
      rintro e w' ⟨rfl, rfl⟩
      go_wp2
      go_ret
      exact ⟨ret_int HE.out.symm, rfl⟩
    · have HE : Hid (smN n k = -1) := by show _ = _; unfold smN; rw [if_neg (fun h => hk h.2)]
      rcases Decidable.em (k < 0) with h1 | h1
      · clear hk hn
        go_enter Try.func133, Try.ntmps133
        go_wp2_with (go_at_call 139; refine (isWires _ _).mono ?_; rintro e w' ⟨rfl, rfl⟩)
        go_ret
        exact ⟨ret_int HE.out.symm, rfl⟩
      · have h2 : n < k := by omega
        clear hk hn
        go_enter Try.func133, Try.ntmps133
        go_wp2_with (go_at_call 139; refine (isWires _ _).mono ?_; rintro e w' ⟨rfl, rfl⟩)
        go_ret
        exact ⟨ret_int HE.out.symm, rfl⟩
  · have HE : Hid (smN n k = -1) := by show _ = _; unfold smN; rw [if_neg (fun h => hn h.1)]
    have ht := tf_InP_no (lo := 1) (n := n) (hi := 8) (by omega)
    clear hn
    go_enter Try.func133, Try.ntmps133
    go_wp2_with (go_at_call 139; refine (isWires _ _).mono ?_; rintro e w' ⟨rfl, rfl⟩)
    go_ret
    exact ⟨ret_int HE.out.symm, rfl⟩

/-- What IsSortedMask says. -/
def IsSm (n m : Int) : Prop := InP 1 n 8 ∧ InP 0 m (2 ^ n.toNat - 1) ∧ m = sortedN n.toNat (onesN m.toNat)


theorem implIsSm (n m : Int) (w : World) : Calls Try.prog 56 #[.int .i64 n, .int .i64 m] w fun e w' => e = .returned (.bool (tf (IsSm n m))) ∧ w = w' := by
  by_cases hn : 1 ≤ n ∧ n ≤ 8
  · have ht := tf_InP_yes hn.1 hn.2
    obtain ⟨n, rfl⟩ := Int.eq_ofNat_of_zero_le (show 0 ≤ n by omega)
    have hw := wrap_pow n (by omega)
    have hp := pow_pos n
    have hq := pow_le8 n (by omega)
    by_cases hk : 0 ≤ m ∧ m ≤ 2 ^ n - 1
    · have ht2 := tf_InP_yes hk.1 hk.2
      obtain ⟨m, rfl⟩ := Int.eq_ofNat_of_zero_le (show 0 ≤ m by omega)
      have HE : Hid (tf (IsSm n m) = decide ((m : Int) = sortedN n (onesN m))) := (tf_congr ⟨fun h => h.2.2, fun h => ⟨hn, hk, h⟩⟩).trans tf_dec
      have hm : m < 256 := by omega
      have ho := onesN_wires n m (by omega) (by omega)
      obtain ⟨h1, h2⟩ := hn
      obtain ⟨h3, h4⟩ := hk
      go_enter Try.func56, Try.ntmps56
      go_wp2_with (first | (go_at_call 139; refine (isWires _ _).mono ?_; rintro e w' ⟨rfl, rfl⟩) | (go_at_call 141; refine (isMask n _ _ (by omega)).mono ?_; rintro e w' ⟨rfl, rfl⟩) | (go_at_call 149; refine (sorted n m _ (by omega) hm ho).mono ?_; rintro e w' ⟨rfl, rfl⟩))
      go_ret
      exact ⟨ret_bool (by rw [HE.out]; rfl), rfl⟩
    · have HE : Hid (tf (IsSm n m) = false) := tf_no fun h => hk h.2.1
      have ht2 := tf_InP_no (lo := 0) (n := m) (hi := 2 ^ n - 1) (by omega)
      obtain ⟨h1, h2⟩ := hn
      clear hk
      go_enter Try.func56, Try.ntmps56
      go_wp2_with (first | (go_at_call 139; refine (isWires _ _).mono ?_; rintro e w' ⟨rfl, rfl⟩) | (go_at_call 141; refine (isMask n _ _ (by omega)).mono ?_; rintro e w' ⟨rfl, rfl⟩))
      go_ret
      exact ⟨ret_bool HE.out.symm, rfl⟩
  · have HE : Hid (tf (IsSm n m) = false) := tf_no fun h => hn h.1
    have ht := tf_InP_no (lo := 1) (n := n) (hi := 8) (by omega)
    clear hn
    go_enter Try.func56, Try.ntmps56
    go_wp2_with (go_at_call 139; refine (isWires _ _).mono ?_; rintro e w' ⟨rfl, rfl⟩)
    go_ret
    exact ⟨ret_bool HE.out.symm, rfl⟩

end Go.Proofs.Ytjcgehnjhmnehaa
