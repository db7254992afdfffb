/- Contracts: IsDigits and IsName, the program's and the reference's: each returns the truth value of one statement on the bytes. -/
import Derived.Test.YtpgccaibcpiakaaDoorNums
namespace Go.Proofs.YtpgccaibcpiakaaDoor
open Go.RowKit
set_option linter.unusedVariables false

def DigitsOk (s : ByteArray) : Prop := (∀ j (h : j < s.size), 48 ≤ (s[j].toNat : Int) ∧ (s[j].toNat : Int) ≤ 57) ∧ 0 < s.size

set_option maxHeartbeats 400000 in
theorem specIsDigits (s : ByteArray) (w : World) (hs : s.size ≤ maxLen) :
    Calls Tryd.prog 12 #[.string s] w fun e w' => e = .returned (.bool (tf (DigitsOk s))) ∧ w = w' := by
  unfold maxLen at hs
  go_enter Tryd.func12, Tryd.ntmps12
  go_wp2
  go_loop [3] (fun i => ∃ k : Nat, k ≤ s.size ∧ i = .int .i64 k ∧ Hid (∀ j (h : j < s.size), j < k → 48 ≤ (s[j].toNat : Int) ∧ (s[j].toNat : Int) ≤ 57)) (fun i => s.size - (intOf i).toNat)
  case atStart => exact ⟨0, Nat.zero_le _, rfl, fun j _ h => absurd h (Nat.not_lt_zero _)⟩
  case round =>
    obtain ⟨k, hk, rfl, HA⟩ := hrel
    by_cases hlt : k < s.size
    · rcases Decidable.em (48 ≤ (s[k].toNat : Int) ∧ (s[k].toNat : Int) ≤ 57) with hd | hd
      · have HR : Hid (∀ j (h : j < s.size), j < k + 1 → 48 ≤ (s[j].toNat : Int) ∧ (s[j].toNat : Int) ≤ 57) := by
          intro j h hj
          rcases Nat.lt_or_ge j k with h1 | h1
          · exact HA j h h1
          · obtain rfl : j = k := by omega
            exact hd
        obtain ⟨hd1, hd2⟩ := hd
        go_wp2
        go_round
        case rel => exact ⟨k + 1, by omega, by go_num, HR⟩
        case measure => simp [intOf]; omega
      · have HR := Lib.hid (tf_no (p := DigitsOk s) fun h => hd (h.1 k hlt))
        rcases Decidable.em ((s[k].toNat : Int) < 48) with h1 | h1
        all_goals
          go_wp2
          go_ret
          exact ⟨ret_bool HR.out.symm, rfl⟩
    · have HR := Lib.hid ((tf_congr (p := DigitsOk s) ⟨fun h => h.2, fun h => ⟨fun j hj => HA j hj (by omega), h⟩⟩).trans tf_dec)
      go_wp2
      go_ret
      exact ⟨ret_bool (by rw [HR.out]), rfl⟩

theorem nonempty_iff (s : ByteArray) : (!s.toList.isEmpty) = decide (0 < s.size) := by
  have h : s.toList.length = s.size := by rw [ByteArray.toList_eq]; rfl
  rw [← h]; cases s.toList <;> simp

def Good (j : Nat) (c : Int) : Prop := (97 ≤ c ∧ c ≤ 122) ∨ (j ≠ 0 ∧ 48 ≤ c ∧ c ≤ 57)
def NameOk (s : ByteArray) : Prop := (∀ j (h : j < s.size), Good j (s[j].toNat : Int)) ∧ 1 ≤ s.size ∧ s.size ≤ 8

theorem good_snoc {s : ByteArray} {k : Nat} {hlt : k < s.size} (HA : Hid (∀ j (h : j < s.size), j < k → Good j (s[j].toNat : Int))) (hd : Good k (s[k].toNat : Int)) :
    Hid (∀ j (h : j < s.size), j < k + 1 → Good j (s[j].toNat : Int)) := by
  intro j h hj
  rcases Nat.lt_or_ge j k with h1 | h1
  · exact HA j h h1
  · obtain rfl : j = k := by omega
    exact hd

/-- The ways through one round of IsName: in the walk's own spelling. -/
theorem name_ways (k : Nat) (c : Int) : (97 ≤ c ∧ c ≤ 122 ∧ Good k c) ∨ (((k : Int) == 0) = false ∧ 48 ≤ c ∧ c ≤ 57 ∧ c < 97 ∧ Good k c) ∨
    (c < 97 ∧ ((k : Int) == 0) = true ∧ ¬ Good k c) ∨ (c < 97 ∧ ((k : Int) == 0) = false ∧ c < 48 ∧ ¬ Good k c) ∨ (c < 97 ∧ ((k : Int) == 0) = false ∧ 48 ≤ c ∧ 57 < c ∧ ¬ Good k c) ∨
    (97 ≤ c ∧ 122 < c ∧ ((k : Int) == 0) = true ∧ ¬ Good k c) ∨ (97 ≤ c ∧ 122 < c ∧ ((k : Int) == 0) = false ∧ 48 ≤ c ∧ 57 < c ∧ ¬ Good k c) := by
  unfold Good
  rw [beq_iff_eq, beq_eq_false_iff_ne]
  omega

end Go.Proofs.YtpgccaibcpiakaaDoor
