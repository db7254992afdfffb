/- Contracts: ThresholdMask and MasksOk, the program's and the reference's. -/
import Derived.Test.YtldhbbbkfnfhoaaNums
namespace Go.Proofs.Ytldhbbbkfnfhoaa
open Go.RowKit
set_option linter.unusedVariables false

/-- The mask of the numbers that are great enough, among the first k. -/
def thrTo (xs : List Int) (t : Int) : Nat → Nat
  | 0 => 0
  | k + 1 => thrTo xs t k + if t ≤ xs.getD k 0 then 2 ^ k else 0
theorem thrTo_lt (xs : List Int) (t : Int) (k : Nat) : thrTo xs t k < 2 ^ k := by
  induction k with
  | zero => simp [thrTo]
  | succ k ih => rw [thrTo, Nat.pow_succ]; split <;> omega
theorem thrTo_yes {xs : List Int} {t : Int} {k : Nat} (hk : k < xs.length) (h : t ≤ xs[k]) : thrTo xs t (k + 1) = thrTo xs t k + 2 ^ k := by
  rw [thrTo, if_pos (by simpa [hk] using h)]
theorem thrTo_no {xs : List Int} {t : Int} {k : Nat} (hk : k < xs.length) (h : xs[k] < t) : thrTo xs t (k + 1) = thrTo xs t k := by
  rw [thrTo, if_neg (by simp [hk]; omega)]; rfl
theorem or_pow (m k : Nat) (hk : k < 8) (hm : m < 2 ^ k) : bits BinOp.or IntKind.i64 (m : Int) (2 ^ k) = (m : Int) + 2 ^ k := by
  have H : ∀ k : Fin 8, ∀ m : Fin 256, m.val < 2 ^ k.val → bits BinOp.or IntKind.i64 (m.val : Int) (2 ^ k.val) = (m.val : Int) + 2 ^ k.val := by decide +kernel
  have : (2 : Nat) ^ k ≤ 2 ^ 7 := Nat.pow_le_pow_right (by omega) (by omega)
  exact H ⟨k, hk⟩ ⟨m, by omega⟩ hm

/-- What ThresholdMask returns. -/
def thrN (xs : List Int) (t : Int) : Int := if 1 ≤ xs.length ∧ xs.length ≤ 8 then (thrTo xs t xs.length : Int) else -1



/-- What MasksOk says of its first k masks. -/
def MaskAt (n : Nat) (xs : List Int) (i : Nat) (h : i < xs.length) : Prop := InP 0 xs[i] (2 ^ n - 1) ∧ (0 < i → xs.getD (i - 1) 0 < xs[i])
def MasksP (n : Int) (xs : List Int) : Prop := InP 1 n 8 ∧ ∀ i (h : i < xs.length), MaskAt n.toNat xs i h

theorem getD_get {xs : List Int} {i : Nat} (h : i < xs.length) : xs.getD i 0 = xs[i] := by simp [h]

theorem mask_snoc {n : Nat} {xs : List Int} {k : Nat} {hlt : k < xs.length} (HA : Hid (∀ i (h : i < xs.length), i < k → MaskAt n xs i h)) (hd : MaskAt n xs k hlt) :
    Hid (∀ i (h : i < xs.length), i < k + 1 → MaskAt n xs i h) := by
  intro j h hj
  rcases Nat.lt_or_ge j k with h1 | h1
  · exact HA j h h1
  · obtain rfl : j = k := by omega
    exact hd

theorem mask_ways (n : Nat) (xs : List Int) (k : Nat) (h : k < xs.length) : (tf (InP 0 xs[k] (2 ^ n - 1)) = false ∧ ¬ MaskAt n xs k h) ∨ (tf (InP 0 xs[k] (2 ^ n - 1)) = true ∧ k = 0 ∧ MaskAt n xs k h) ∨
    (tf (InP 0 xs[k] (2 ^ n - 1)) = true ∧ 1 ≤ k ∧ xs[k] ≤ xs.getD (k - 1) 0 ∧ ¬ MaskAt n xs k h) ∨ (tf (InP 0 xs[k] (2 ^ n - 1)) = true ∧ 1 ≤ k ∧ xs.getD (k - 1) 0 < xs[k] ∧ MaskAt n xs k h) := by
  rcases Classical.em (InP 0 xs[k] (2 ^ n - 1)) with h1 | h1
  · rcases Nat.eq_zero_or_pos k with h2 | h2
    · exact .inr (.inl ⟨tf_yes h1, h2, h1, fun h => by omega⟩)
    · rcases (show xs.getD (k - 1) 0 < xs[k] ∨ xs[k] ≤ xs.getD (k - 1) 0 by omega) with h3 | h3
      · exact .inr (.inr (.inr ⟨tf_yes h1, h2, h3, h1, fun _ => h3⟩))
      · exact .inr (.inr (.inl ⟨tf_yes h1, h2, h3, fun h => by have := h.2 h2; omega⟩))
  · exact .inl ⟨tf_no h1, fun h => h1 h.1⟩

set_option maxHeartbeats 800000 in
theorem implMasksOk (n : Int) (v : Value) (xs : List Int) (w : World) (h : Ints w v xs) :
    Calls Try.prog 8 #[.int .i64 n, v] w fun e w' => e = .returned (.bool (tf (MasksP n xs))) ∧ w = w' := by
  obtain ⟨ao, cap, rfl, hcap, hmax, hnil, hcell⟩ := h
  have HC := Lib.hid hcell; clear hcell
  unfold maxLen at hmax
  by_cases hn : 1 ≤ n ∧ n ≤ 8
  · obtain ⟨n, rfl⟩ := Int.eq_ofNat_of_zero_le (show 0 ≤ n by omega)
    have ht := tf_InP_yes hn.1 hn.2
    have HN : Hid (InP 1 (n : Int) 8) := hn
    obtain ⟨hn1, hn2⟩ := hn
    go_enter Try.func8, Try.ntmps8
    go_wp2_with (go_at_call 29; refine (isWires _ _).mono ?_; rintro e w' ⟨rfl, rfl⟩)
    go_loop [12] (fun i => ∃ k : Nat, k ≤ xs.length ∧ i = .int .i64 k ∧ Hid (∀ i (h : i < xs.length), i < k → MaskAt n xs i h)) (fun i => xs.length - (intOf i).toNat)
    case atStart => exact ⟨0, Nat.zero_le _, rfl, fun _ _ h => absurd h (Nat.not_lt_zero _)⟩
    case round =>
      obtain ⟨k, hk, rfl, HA⟩ := hrel
      by_cases hlt : k < xs.length
      · obtain ⟨b, o, u, rfl, hu, rfl, hwf⟩ := HC.out k hlt
        clear hwf
        rcases mask_ways n xs k hlt with ⟨h1, hd⟩ | ⟨h1, h2, hd⟩ | ⟨h1, h2, h3, hd⟩ | ⟨h1, h2, h3, hd⟩
        · have HR := Lib.hid (tf_no (p := MasksP n xs) fun h => hd (h.2 k hlt))
          clear hd
          go_wp2_with (go_at_call 32; refine (isMask n _ _ (by omega)).mono ?_; rintro e w' ⟨rfl, rfl⟩)
          go_ret
          exact ⟨ret_bool HR.out.symm, rfl⟩
        · have HR := mask_snoc HA hd
          have h2' : k ≤ 0 := by omega
          clear hd h2
          go_wp2_with (go_at_call 32; refine (isMask n _ _ (by omega)).mono ?_; rintro e w' ⟨rfl, rfl⟩)
          go_round
          case rel => exact ⟨k + 1, by omega, by go_num, HR⟩
          case measure => simp [intOf]; omega
        · have HR := Lib.hid (tf_no (p := MasksP n xs) fun h => hd (h.2 k hlt))
          obtain ⟨b2, o2, u2, e2, hu2, rfl, hwf2⟩ := HC.out (k - 1) (by omega)
          simp only [Option.some.injEq, Addr.mk.injEq] at e2
          obtain ⟨rfl, rfl, -⟩ := e2
          rw [getD_get (show k - 1 < xs.length by omega)] at h3
          clear hd hwf2
          go_wp2_with (go_at_call 32; refine (isMask n _ _ (by omega)).mono ?_; rintro e w' ⟨rfl, rfl⟩)
          go_ret
          exact ⟨ret_bool HR.out.symm, rfl⟩
        · have HR := mask_snoc HA hd
          obtain ⟨b2, o2, u2, e2, hu2, rfl, hwf2⟩ := HC.out (k - 1) (by omega)
          simp only [Option.some.injEq, Addr.mk.injEq] at e2
          obtain ⟨rfl, rfl, -⟩ := e2
          rw [getD_get (show k - 1 < xs.length by omega)] at h3
          clear hd hwf2
          go_wp2_with (go_at_call 32; refine (isMask n _ _ (by omega)).mono ?_; rintro e w' ⟨rfl, rfl⟩)
          go_round
          case rel => exact ⟨k + 1, by omega, by go_num, HR⟩
          case measure => simp [intOf]; omega
      · have HR := Lib.hid (tf_yes (p := MasksP n xs) ⟨HN.out, fun i h => HA i h (by omega)⟩)
        go_wp2
        go_ret
        exact ⟨ret_bool HR.out.symm, rfl⟩
  · have HE : Hid (tf (MasksP n xs) = false) := tf_no fun h => hn h.1
    have ht := tf_InP_no (lo := 1) (n := n) (hi := 8) (by omega)
    clear hn
    go_enter Try.func8, Try.ntmps8
    go_wp2_with (go_at_call 29; refine (isWires _ _).mono ?_; rintro e w' ⟨rfl, rfl⟩)
    go_ret
    exact ⟨ret_bool HE.out.symm, rfl⟩


end Go.Proofs.Ytldhbbbkfnfhoaa
