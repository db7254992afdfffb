/- Contracts: the laws' own small functions: has, sum. -/
import Derived.Test.YtldhbbbkfnfhoaaTopC
namespace Go.Proofs.Ytldhbbbkfnfhoaa
open Go.RowKit
set_option linter.unusedVariables false

set_option maxHeartbeats 800000 in
theorem hasC (v : Value) (xs : List Int) (n : Int) (w : World) (h : Ints w v xs) :
    Calls Try.prog 13 #[v, .int .i64 n] w (GivesB w (tf (n ∈ xs))) := by
  obtain ⟨ao, cap, rfl, hcap, hmax, hnil, hcell⟩ := h
  have HC := Lib.hid hcell; clear hcell
  unfold maxLen at hmax
  go_enter Try.func13, Try.ntmps13
  go_wp2
  go_loopw [9] (fun i wr => ∃ k : Nat, k ≤ xs.length ∧ i = .int .i64 k ∧ Hid (∀ j (hj : j < xs.length), j < k → xs[j] ≠ n) ∧ Below w.heap.size w wr) (fun i _ => xs.length - (intOf i).toNat)
  case atStart => exact ⟨0, Nat.zero_le _, rfl, Lib.hid (fun j _ hj => by omega), Below.refl _ _⟩
  case round =>
    obtain ⟨k, hk, rfl, HN, hb⟩ := hrel
    by_cases hlt : k < xs.length
    · obtain ⟨b, o, u, rfl, hu, rfl, hwf⟩ := HC.out k hlt
      have c1 := Below.keeps hb _ _ hu
      clear hu
      by_cases he : xs[k] = n
      · have hq : (xs[k] == n) = true := by simp [he]
        have HT : Hid (tf (n ∈ xs) = true) := tf_yes (by rw [← he]; exact List.getElem_mem hlt)
        clear he
        generalize xs[k] = y at *
        go_wp2
        go_ret
        exact ⟨ret_bool HT.out.symm, hb⟩
      · have hq : (xs[k] == n) = false := by simp [he]
        have HS : Hid (∀ j (hj : j < xs.length), j < k + 1 → xs[j] ≠ n) := by
          intro j hj hjk
          rcases Nat.lt_or_ge j k with hh | hh
          · exact HN.out j hj hh
          · obtain rfl : j = k := by omega
            exact he
        have he := Lib.hid he
        generalize xs[k] = y at *
        go_wp2
        go_roundw
        case rel => exact ⟨k + 1, by omega, by go_num, HS, hb⟩
        case measure => simp [intOf]; omega
    · have HT : Hid (tf (n ∈ xs) = false) := tf_no fun hm => by
        obtain ⟨i, hi, hx⟩ := List.getElem_of_mem hm
        exact HN.out i hi (by omega) hx
      go_wp2
      go_ret
      exact ⟨ret_bool HT.out.symm, hb⟩
/-- The sum of the first k numbers. -/
def sumTo (xs : List Int) (k : Nat) : Int := (xs.take k).sum
theorem sumTo_succ (xs : List Int) (k : Nat) (h : k < xs.length) : sumTo xs (k + 1) = sumTo xs k + xs[k] := by
  unfold sumTo; rw [List.take_succ_eq_append_getElem h, List.sum_append]; simp
theorem sumTo_bd (xs : List Int) (h : ∀ x ∈ xs, 0 ≤ x ∧ x ≤ 1000) (k : Nat) (hk : k ≤ xs.length) : 0 ≤ sumTo xs k ∧ sumTo xs k ≤ 1000 * k := by
  induction k with
  | zero => simp [sumTo]
  | succ k ih =>
    have := ih (by omega)
    have h2 := h _ (List.getElem_mem (show k < xs.length by omega))
    rw [sumTo_succ xs k (by omega)]
    omega
theorem sumTo_all (xs : List Int) : sumTo xs xs.length = xs.sum := by unfold sumTo; rw [List.take_length]
set_option maxHeartbeats 800000 in
theorem sumC (v : Value) (xs : List Int) (w : World) (h : Ints w v xs) (hx : ∀ x ∈ xs, 0 ≤ x ∧ x ≤ 1000) (hl : xs.length ≤ 1000) :
    Calls Try.prog 12 #[v] w (GivesN w xs.sum) := by
  obtain ⟨ao, cap, rfl, hcap, hmax, hnil, hcell⟩ := h
  have HC := Lib.hid hcell; clear hcell
  have HX := Lib.hid hx; clear hx
  unfold maxLen at hmax
  go_enter Try.func12, Try.ntmps12
  go_wp2
  go_loopw [3, 8] (fun s i wr => ∃ k : Nat, k ≤ xs.length ∧ i = .int .i64 k ∧ s = .int .i64 (sumTo xs k) ∧ Below w.heap.size w wr) (fun _ i _ => xs.length - (intOf i).toNat)
  case atStart => exact ⟨0, Nat.zero_le _, rfl, rfl, Below.refl _ _⟩
  case round =>
    obtain ⟨k, hk, rfl, rfl, hb⟩ := hrel
    have hsb := sumTo_bd xs HX.out k hk
    by_cases hlt : k < xs.length
    · obtain ⟨b, o, u, rfl, hu, rfl, hwf⟩ := HC.out k hlt
      have c1 := Below.keeps hb _ _ hu
      have HS := Lib.hid (sumTo_succ xs k hlt)
      have hxk := HX.out _ (List.getElem_mem hlt)
      clear hu
      generalize xs[k] = y at *
      generalize sumTo xs k = s at *
      go_wp2
      go_roundw
      case rel => exact ⟨k + 1, by omega, by go_num, by rw [HS.out], hb⟩
      case measure => simp [intOf]; omega
    · obtain rfl : k = xs.length := by omega
      have HS := Lib.hid (sumTo_all xs)
      go_wp2
      go_ret
      exact ⟨congrArg (fun z : Int => Ending.returned (.int .i64 z)) HS.out, hb⟩
end Go.Proofs.Ytldhbbbkfnfhoaa
