/- Contracts: PadZeros, the program's and the reference's. -/
import Derived.Test.YtiobildhknbalaaBase
import Derived.Test.YtiobildhknbalaaShelfPad
import Derived.Lib.Repeat
namespace Go.Proofs.Ytiobildhknbalaa
open Go.RowKit
set_option linter.unusedVariables false

/-- Zeros ahead of a text. -/
noncomputable def padN (s : ByteArray) (n : Int) : ByteArray := bif tf (n ≤ s.size ∨ n > 2000) then s else ⟨(List.replicate (n - s.size).toNat 48 ++ s.data.toList).toArray⟩
theorem padN_same {s : ByteArray} {n : Int} (h : n ≤ s.size ∨ n > 2000) : padN s n = s := by unfold padN; rw [tf_yes h]; rfl
theorem padN_new {s : ByteArray} {n : Int} (h : ¬ (n ≤ s.size ∨ n > 2000)) : padN s n = ⟨(List.replicate (n - s.size).toNat 48 ++ s.data.toList).toArray⟩ := by unfold padN; rw [tf_no h]; rfl
theorem repeatL_one (c : Nat) : Lib.repeatL [48] c = List.replicate c 48 := by
  induction c with
  | zero => rfl
  | succ c ih => rw [Lib.repeatL, ih, List.replicate_succ]; rfl
def strLen : Value → Int
  | .string t => t.size
  | _ => 0
/-- A text comes back; nothing that was there has turned. -/
def GivesT (w : World) (s : ByteArray) (en : Ending) (w' : World) : Prop := en = .returned (.string s) ∧ Below w.heap.size w w'
theorem bytes_eq {s t : ByteArray} (h : s.data.toList = t.data.toList) : s = t := by
  cases s; cases t; congr 1; exact Array.toList_inj.1 h
theorem ret_str {s t : ByteArray} (h : s = t) : Ending.returned (.string s) = .returned (.string t) := by rw [h]

set_option maxHeartbeats 800000 in
set_option maxRecDepth 100000 in
theorem specPadZeros (s : ByteArray) (n : Int) (w : World) (hs : s.size ≤ maxLen) (hn : (Lit.int .i64 n).wf = true) :
    Calls Try.prog 4 #[.string s, .int .i64 n] w (GivesT w (padN s n)) := by
  unfold maxLen at hs
  clear hn
  by_cases h1 : n > 2000
  · have HE := Lib.hid (padN_same (s := s) (n := n) (.inr h1))
    have e1 : decide (n > 2000) = true := decide_eq_true h1
    go_enter Try.func4, Try.ntmps4
    go_wp2
    go_ret
    exact ⟨ret_str HE.out.symm, Below.refl _ _⟩
  · have e1 : decide (n > 2000) = false := decide_eq_false h1
    go_enter Try.func4, Try.ntmps4
    go_wp2
    go_loop [0] (fun q => ∃ (t : ByteArray) (k : Nat), q = .string t ∧ Hid (t.data.toList = List.replicate k 48 ++ s.data.toList) ∧ t.size = s.size + k ∧ (k = 0 ∨ (t.size : Int) ≤ n)) (fun q => (n - strLen q).toNat)
    case atStart => exact ⟨s, 0, rfl, by show _ = _; simp, by omega, .inl rfl⟩
    case round =>
      obtain ⟨t, k, rfl, HT, ht, hk⟩ := hrel
      by_cases hlt : (t.size : Int) < n
      · have e2 : decide ((t.size : Int) < n) = true := decide_eq_true hlt
        have h9 : ((⟨#[48]⟩ : ByteArray) ++ t).size = 1 + t.size := by rw [ByteArray.size_append]; rfl
        go_wp2
        go_round
        case rel => exact ⟨_, k + 1, rfl, by show _ = _; simp [HT.out, List.replicate_succ], by rw [h9]; omega, .inr (by rw [h9]; omega)⟩
        case measure => first | (simp only [strLen, h9]; omega) | (show (n - (((⟨#[48]⟩ : ByteArray) ++ t).size : Int)).toNat < (n - (t.size : Int)).toNat; rw [h9]; omega)
      · have e2 : decide ((t.size : Int) < n) = false := decide_eq_false hlt
        have HE : Hid (t = padN s n) := by
          show _ = _
          apply bytes_eq
          by_cases h2 : n ≤ s.size
          · have hk0 : k = 0 := by omega
            rw [padN_same (.inl h2), HT.out, hk0]; simp
          · rw [padN_new (by omega), HT.out]
            have : k = (n - s.size).toNat := by omega
            rw [this]
        go_wp2
        go_ret
        exact ⟨ret_str HE.out, Below.refl _ _⟩

set_option maxHeartbeats 800000 in
set_option maxRecDepth 100000 in
theorem implPadZeros (s : ByteArray) (n : Int) (w : World) (hs : s.size ≤ maxLen) (hn : (Lit.int .i64 n).wf = true) :
    Calls Try.prog 5 #[.string s, .int .i64 n] w (GivesT w (padN s n)) := by
  unfold maxLen at hs
  clear hn
  by_cases h1 : n ≤ s.size
  · have HE := Lib.hid (padN_same (s := s) (n := n) (.inl h1))
    have e1 : decide ((s.size : Int) ≥ n) = true := decide_eq_true (by omega)
    go_enter Try.func5, Try.ntmps5
    go_wp2
    go_ret
    exact ⟨ret_str HE.out.symm, Below.refl _ _⟩
  · have e1 : decide ((s.size : Int) ≥ n) = false := decide_eq_false (by omega)
    by_cases h2 : n > 2000
    · have e2 : decide (n > 2000) = true := decide_eq_true h2
      have HE := Lib.hid (padN_same (s := s) (n := n) (.inr h2))
      go_enter Try.func5, Try.ntmps5
      go_wp2
      go_ret
      exact ⟨ret_str HE.out.symm, Below.refl _ _⟩
    · have e2 : decide (n > 2000) = false := decide_eq_false h2
      obtain ⟨c, hc⟩ : ∃ c : Nat, n - s.size = (c : Int) := ⟨(n - s.size).toNat, by omega⟩
      have hw : IntKind.i64.wrap (n - (s.size : Int)) = (c : Int) := by rw [hc]; exact IntWalk.i64_in _ ⟨by omega, by omega⟩
      have hc2 : c ≤ 2000 := by omega
      have HC := Lib.hid hc
      clear hc
      have C : Hid (Calls Try.prog 6 #[.string ⟨#[48]⟩, .int .i64 (c : Int)] w fun e w' => e = .returned (.string ⟨(List.replicate c 48).toArray⟩) ∧ Below w.heap.size w w') := by
        have := Try.strings_Repeat ⟨#[48]⟩ c w (by omega) (by show 1 * c ≤ _; omega)
        rw [← repeatL_one]; exact this
      have hsz : (s.size : Int) < n := by omega
      go_enter Try.func5, Try.ntmps5
      go_wp2_with (go_at_call 6; refine C.out.mono ?_; rintro e w2 ⟨rfl, b2⟩)
      have HE : Hid ((⟨(List.replicate c 48).toArray⟩ ++ s : ByteArray) = padN s n) := by
        show _ = _
        apply bytes_eq
        rw [padN_new (by omega)]
        have : (n - (s.size : Int)).toNat = c := by have := HC.out; omega
        rw [this]; simp
      go_ret
      exact ⟨ret_str HE.out, b2⟩
end Go.Proofs.Ytiobildhknbalaa
