/- The plain law of reading a numeral: what the text must be, and what its digits spell. No program is named. -/
import Derived.Test.YtpgccaibcpiakaaDoorDec
namespace Go.Proofs.YtpgccaibcpiakaaDoor
open Go.RowKit
set_option linter.unusedVariables false

/-- A text that begins with a minus: its rest. -/
theorem pi_neg {s : ByteArray} {r : List UInt8} (hs : s.data.toList = 45 :: r) (h : PiP s) : ∃ u : Nat, 1 ≤ u ∧ u ≤ 9223372036854775808 ∧ r = Lib.decDigits u := by
  obtain ⟨n, hn, he⟩ := h
  have hb := (in64_iff n).1 hn
  rw [hs] at he
  by_cases h0 : n < 0
  · obtain ⟨u, rfl⟩ : ∃ u : Nat, n = -(u : Int) := ⟨n.natAbs, by omega⟩
    rw [Lib.itoa_neg u (by omega)] at he
    exact ⟨u, by omega, by omega, (List.cons.inj he).2⟩
  · obtain ⟨u, rfl⟩ : ∃ u : Nat, n = (u : Int) := ⟨n.toNat, by omega⟩
    rw [Lib.itoa_nonneg] at he
    have := decDigits_dig u 45 (by rw [← he]; simp)
    exact absurd this.1 (by decide)
theorem pi_pos {s : ByteArray} (hs : ∀ r, s.data.toList ≠ 45 :: r) (h : PiP s) : ∃ u : Nat, u ≤ 9223372036854775807 ∧ s.data.toList = Lib.decDigits u := by
  obtain ⟨n, hn, he⟩ := h
  have hb := (in64_iff n).1 hn
  by_cases h0 : n < 0
  · obtain ⟨u, rfl⟩ : ∃ u : Nat, n = -(u : Int) := ⟨n.natAbs, by omega⟩
    rw [Lib.itoa_neg u (by omega)] at he
    exact absurd he (hs _)
  · obtain ⟨u, rfl⟩ : ∃ u : Nat, n = (u : Int) := ⟨n.toNat, by omega⟩
    rw [Lib.itoa_nonneg] at he
    exact ⟨u, by omega, he⟩
/-- The text t is the digits of s: behind the minus, or s itself. -/
def PiT (neg : Bool) (s t : ByteArray) : Prop := if neg = true then s.data.toList = 45 :: t.data.toList else s = t ∧ ∀ r, s.data.toList ≠ 45 :: r
theorem PiT.num {neg : Bool} {s t : ByteArray} (ht : PiT neg s t) (h : PiP s) : ∃ u : Nat, u ≤ 9223372036854775808 ∧ t.data.toList = Lib.decDigits u ∧ (neg = false → u ≤ 9223372036854775807) := by
  cases neg with
  | true =>
    obtain ⟨u, _, h2, h3⟩ := pi_neg ht h
    exact ⟨u, h2, h3, fun h => by cases h⟩
  | false =>
    obtain ⟨rfl, h1⟩ := ht
    obtain ⟨u, h2, h3⟩ := pi_pos h1 h
    exact ⟨u, by omega, h3, fun _ => h2⟩
/-- No digits: no number. -/
theorem PiT.no_dig {neg : Bool} {s t : ByteArray} (ht : PiT neg s t) (h : ¬ DigL t.data.toList) : ¬ PiP s := fun hp => by
  obtain ⟨u, _, h2, _⟩ := ht.num hp
  exact h (by rw [h2]; exact decDigits_dig u)
theorem PiT.no_len {neg : Bool} {s t : ByteArray} (ht : PiT neg s t) (h : 19 < t.size) : ¬ PiP s := fun hp => by
  obtain ⟨u, h1, h2, _⟩ := ht.num hp
  have h3 := decDigits_len19 u h1
  have h4 : t.data.toList.length = t.size := rfl
  rw [h2] at h4; omega
theorem PiT.no_empty {neg : Bool} {s t : ByteArray} (ht : PiT neg s t) (h : t.size = 0) : ¬ PiP s := fun hp => by
  obtain ⟨u, _, h2, _⟩ := ht.num hp
  have h4 : t.data.toList.length = t.size := rfl
  have := decDigits_ne u
  rw [← h2] at this
  exact this (List.eq_nil_of_length_eq_zero (by omega))
/-- Too great on the way: no number. -/
theorem PiT.no_big {neg : Bool} {s t : ByteArray} (ht : PiT neg s t) {k : Nat} (hk : k < t.size) (h : 9223372036854775808 < dvF 0 (t.data.toList.take k) * 10 + (t[k].toNat - 48)) : ¬ PiP s := fun hp => by
  obtain ⟨u, h1, h2, _⟩ := ht.num hp
  have h3 := decDigits_val u
  rw [← h2] at h3
  have hl : k < t.data.toList.length := hk
  have e : t.data.toList = t.data.toList.take k ++ t[k] :: t.data.toList.drop (k + 1) := by
    conv => lhs; rw [← List.take_append_drop k t.data.toList, List.drop_eq_getElem_cons hl]
    rfl
  rw [e, dvF_append] at h3
  have := dvF_le (t.data.toList.drop (k + 1)) (dvF 0 (t.data.toList.take k) * 10 + (t[k].toNat - 48))
  have h5 : dvF (dvF 0 (t.data.toList.take k)) (t[k] :: t.data.toList.drop (k + 1)) = dvF (dvF 0 (t.data.toList.take k) * 10 + (t[k].toNat - 48)) (t.data.toList.drop (k + 1)) := rfl
  omega
/-- The number that the digits spell. -/
def piV (neg : Bool) (t : ByteArray) : Int := if neg = true then -(dvF 0 t.data.toList : Int) else (dvF 0 t.data.toList : Int)
theorem PiT.no_min {s t : ByteArray} (ht : PiT false s t) (h : 9223372036854775807 < dvF 0 t.data.toList) : ¬ PiP s := fun hp => by
  obtain ⟨u, _, h2, h3⟩ := ht.num hp
  have := decDigits_val u
  rw [← h2] at this
  have := h3 rfl
  omega
theorem PiT.not {neg : Bool} {s t : ByteArray} (ht : PiT neg s t) (h : s.data.toList ≠ Lib.itoa (piV neg t)) : ¬ PiP s := fun hp => h (by
  cases neg with
  | true =>
    obtain ⟨u, h1, _, h3⟩ := pi_neg ht hp
    have hv := decDigits_val u
    rw [← h3] at hv
    show s.data.toList = Lib.itoa (-(dvF 0 t.data.toList : Int))
    rw [hv, Lib.itoa_neg u h1, ← h3]; exact ht
  | false =>
    obtain ⟨rfl, h0⟩ := ht
    obtain ⟨u, _, h3⟩ := pi_pos h0 hp
    have hv := decDigits_val u
    rw [← h3] at hv
    show s.data.toList = Lib.itoa (dvF 0 s.data.toList : Int)
    rw [hv, Lib.itoa_nonneg, h3])
theorem dvF_snoc (l : List UInt8) (c : UInt8) : dvF 0 (l ++ [c]) = dvF 0 l * 10 + (c.toNat - 48) := by rw [dvF_append]; rfl
end Go.Proofs.YtpgccaibcpiakaaDoor
