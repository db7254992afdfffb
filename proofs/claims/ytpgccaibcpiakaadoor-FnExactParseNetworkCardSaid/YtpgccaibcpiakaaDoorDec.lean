/- Plain facts on decimal numerals: they spell one number each, and every reader of digits finds it again. No program is named. -/
import Derived.Test.YtpgccaibcpiakaaDoorKit
import Derived.Lib.ItoaLen
import Derived.Lib.AtoiAll
namespace Go.Proofs.YtpgccaibcpiakaaDoor
open Go.RowKit
set_option linter.unusedVariables false

/-- What a row of digits spells behind the number a. -/
def dvF (a : Nat) : List UInt8 → Nat
  | [] => a
  | c :: r => dvF (a * 10 + (c.toNat - 48)) r
def DigL (l : List UInt8) : Prop := ∀ c ∈ l, 48 ≤ c.toNat ∧ c.toNat ≤ 57
theorem dvF_append (l r : List UInt8) : ∀ a, dvF a (l ++ r) = dvF (dvF a l) r := by
  induction l with
  | nil => intro a; rfl
  | cons c l ih => intro a; exact ih _
theorem dvF_le (l : List UInt8) : ∀ a, a ≤ dvF a l := by
  induction l with
  | nil => intro a; exact Nat.le_refl _
  | cons c l ih => intro a; have := ih (a * 10 + (c.toNat - 48)); show a ≤ dvF _ l; omega
theorem dg_toNat (k : Nat) (h : k < 10) : (UInt8.ofNat (48 + k)).toNat = 48 + k := by
  rw [UInt8.toNat_ofNat']; omega
theorem decDigits_small {u : Nat} (h : u < 10) : Lib.decDigits u = [UInt8.ofNat (48 + u)] := by rw [Lib.decDigits, dif_pos h]
theorem decDigits_big {u : Nat} (h : ¬ u < 10) : Lib.decDigits u = Lib.decDigits (u / 10) ++ [UInt8.ofNat (48 + u % 10)] := by rw [Lib.decDigits, dif_neg h]
theorem decDigits_dig (u : Nat) : DigL (Lib.decDigits u) := by
  induction u using Nat.strongRecOn with
  | ind u ih =>
    by_cases h : u < 10
    · rw [decDigits_small h]
      intro c hc
      rw [List.mem_singleton] at hc
      rw [hc, dg_toNat u h]; omega
    · rw [decDigits_big h]
      intro c hc
      rcases List.mem_append.1 hc with h1 | h1
      · exact ih (u / 10) (by omega) c h1
      · rw [List.mem_singleton] at h1
        rw [h1, dg_toNat _ (by omega)]; omega
theorem decDigits_val (u : Nat) : dvF 0 (Lib.decDigits u) = u := by
  induction u using Nat.strongRecOn with
  | ind u ih =>
    by_cases h : u < 10
    · rw [decDigits_small h]
      show 0 * 10 + ((UInt8.ofNat (48 + u)).toNat - 48) = u
      rw [dg_toNat u h]; omega
    · rw [decDigits_big h, dvF_append, ih (u / 10) (by omega)]
      show u / 10 * 10 + ((UInt8.ofNat (48 + u % 10)).toNat - 48) = u
      rw [dg_toNat _ (by omega)]; omega
theorem decDigits_ne (u : Nat) : Lib.decDigits u ≠ [] := by
  by_cases h : u < 10
  · rw [decDigits_small h]; simp
  · rw [decDigits_big h]; simp
theorem decDigits_inj {u v : Nat} (h : Lib.decDigits u = Lib.decDigits v) : u = v := by
  have := decDigits_val u; rw [h, decDigits_val] at this; exact this.symm
theorem itoa_inj {a b : Int} (h : Lib.itoa a = Lib.itoa b) : a = b := by
  unfold Lib.itoa at h
  have key : ∀ (x y : Nat), (45 : UInt8) :: Lib.decDigits x ≠ Lib.decDigits y := fun x y e => by
    have := decDigits_dig y 45 (by rw [← e]; simp)
    exact absurd this.1 (by decide)
  by_cases ha : a < 0
  · rw [if_pos ha] at h
    by_cases hb : b < 0
    · rw [if_pos hb] at h
      have := decDigits_inj (List.cons.inj h).2
      omega
    · rw [if_neg hb] at h
      exact absurd h (key _ _)
  · rw [if_neg ha] at h
    by_cases hb : b < 0
    · rw [if_pos hb] at h
      exact absurd h.symm (key _ _)
    · rw [if_neg hb] at h
      have := decDigits_inj h
      omega
theorem parseUint10_dig (l : List UInt8) : ∀ a, DigL l → dvF a l < 18446744073709551616 → Lib.parseUint10 a l = .ok (dvF a l) := by
  induction l with
  | nil => intro a _ _; rfl
  | cons c r ih =>
    intro a hd hv
    have h1 := hd c (by simp)
    have h2 : a * 10 + (c.toNat - 48) ≤ dvF a (c :: r) := dvF_le r _
    rw [Lib.parseUint10, if_pos h1, if_neg (by omega), if_neg (by omega)]
    exact ih _ (fun x hx => hd x (by simp [hx])) hv
theorem parseMag_dec (u : Nat) (h : u < 18446744073709551616) : Lib.parseMag (Lib.decDigits u) = .ok u := by
  unfold Lib.parseMag
  rw [if_neg (decDigits_ne u), parseUint10_dig _ 0 (decDigits_dig u) (by rw [decDigits_val]; exact h), decDigits_val]
theorem in64_iff (n : Int) : In64 n ↔ -9223372036854775808 ≤ n ∧ n ≤ 9223372036854775807 := by
  constructor
  · intro h
    unfold In64 at h
    simp [Lit.wf, IntKind.min, IntKind.max, IntKind.signed, IntKind.bits] at h
    omega
  · intro h
    exact WalkArith.wf_i64 (by omega)
theorem atoiAll_itoa (n : Int) (h : In64 n) : Lib.atoiAll (Lib.itoa n) = .ok n := by
  have hb := (in64_iff n).1 h
  by_cases hn : n < 0
  · obtain ⟨u, rfl⟩ : ∃ u : Nat, n = -(u : Int) := ⟨n.natAbs, by omega⟩
    rw [Lib.itoa_neg u (by omega)]
    unfold Lib.atoiAll
    show (match Lib.parseMag (if (45 : UInt8).toNat = 43 ∨ (45 : UInt8).toNat = 45 then Lib.decDigits u else 45 :: Lib.decDigits u) with | .syntax => _ | .range => _ | .ok u => _) = _
    rw [if_pos (.inr rfl), parseMag_dec u (by omega)]
    show (if ¬ ((45 : UInt8).toNat = 45) ∧ 9223372036854775808 ≤ u then _ else _) = _
    rw [if_neg (fun h => h.1 rfl), if_neg (by omega), if_pos (show (45 : UInt8).toNat = 45 from rfl)]
  · obtain ⟨u, rfl⟩ : ∃ u : Nat, n = (u : Int) := ⟨n.toNat, by omega⟩
    rw [Lib.itoa_nonneg]
    have hd := decDigits_dig u
    have hm := parseMag_dec u (by omega)
    cases hl : Lib.decDigits u with
    | nil => exact absurd hl (decDigits_ne u)
    | cons c r =>
      rw [hl] at hd hm
      have hc := hd c (by simp)
      unfold Lib.atoiAll
      simp only
      rw [if_neg (by omega), hm]
      simp only
      have h45 : ¬ c.toNat = 45 := by omega
      rw [if_neg (by omega), if_neg (by omega), if_neg h45]

/-- A text that spells a number as Go writes it. -/
def PiP (s : ByteArray) : Prop := ∃ n : Int, In64 n ∧ s.data.toList = Lib.itoa n
open Classical in
noncomputable def piN (s : ByteArray) : Int := if h : PiP s then Classical.choose h else 0
theorem piN_eq {s : ByteArray} {n : Int} (h1 : In64 n) (h2 : s.data.toList = Lib.itoa n) : piN s = n := by
  have h : PiP s := ⟨n, h1, h2⟩
  unfold piN
  rw [dif_pos h]
  exact itoa_inj ((Classical.choose_spec h).2.symm.trans h2)
theorem piN_no {s : ByteArray} (h : ¬ PiP s) : piN s = 0 := by unfold piN; rw [dif_neg h]
/-- The steps of a reader that counts below zero. -/
theorem neg_step {p d : Nat} (hd : d ≤ 9) : (-(p : Int) < Int.tdiv (-9223372036854775808 + (d : Int)) 10) ↔ 9223372036854775808 < p * 10 + d := by
  have e : (-9223372036854775808 + (d : Int)) = -((9223372036854775808 - d : Nat) : Int) := by omega
  rw [e, Int.neg_tdiv, show (10 : Int) = ((10 : Nat) : Int) from rfl, ← Int.ofNat_tdiv]
  omega
theorem itoa_size (n : Int) (h : In64 n) : (Lib.itoa n).length ≤ 21 := by
  have := (in64_iff n).1 h
  exact Lib.itoa_length_le n this.1 this.2
/-- Nineteen digits at most. -/
theorem decDigits_len19 (u : Nat) (h : u ≤ 9223372036854775808) : (Lib.decDigits u).length ≤ 19 := by
  rw [Lib.decDigits_length]
  rcases Nat.lt_or_ge u 10 with h1 | h1
  · rw [Lib.nDigits_small h1]; omega
  · rcases Nat.lt_or_ge (Lib.nDigits u) 20 with h2 | h2
    · omega
    · exfalso
      have key : ∀ k v, Lib.nDigits v = k + 1 → v ≠ 0 → 10 ^ k ≤ v := by
        intro k
        induction k with
        | zero => intro v _ hv; simp; omega
        | succ k ih =>
          intro v hk hv
          by_cases hs : v < 10
          · rw [Lib.nDigits_small hs] at hk; omega
          · rw [Lib.nDigits_big hs] at hk
            have := ih (v / 10) (by omega) (by omega)
            rw [Nat.pow_succ]; omega
      have := key (Lib.nDigits u - 1) u (by omega) (by omega)
      have h3 := Nat.pow_le_pow_right (n := 10) (by decide) (show 19 ≤ Lib.nDigits u - 1 by omega)
      have : 10 ^ 19 ≤ u := Nat.le_trans h3 this
      omega
end Go.Proofs.YtpgccaibcpiakaaDoor
