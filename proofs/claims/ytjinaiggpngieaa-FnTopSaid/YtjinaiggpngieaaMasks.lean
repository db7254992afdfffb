/- Contracts: ThresholdMask and MasksOk, the program's and the reference's. -/
import Derived.Test.YtjinaiggpngieaaNums
namespace Go.Proofs.Ytjinaiggpngieaa
open Go.RowKit
set_option linter.unusedVariables false

/-- The mask of the numbers that are great enough, among the first k. -/
def thrTo (xs : List Int) (t : Int) : Nat → Nat
  | 0 => 0
  | k + 1 => thrTo xs t k + if t ≤ xs.getD k 0 then 2 ^ k else 0
theorem thrTo_lt (xs : List Int) (t : Int) (k : Nat) : thrTo xs t k < 2 ^ k := by
  induction k with
  | zero => simp [thrTo]
  | succ k ih => rw [thrTo, Nat.pow_succ]; split <;> omega
theorem thrTo_yes {xs : List Int} {t : Int} {k : Nat} (hk : k < xs.length) (h : t ≤ xs[k]) : thrTo xs t (k + 1) = thrTo xs t k + 2 ^ k := by
  rw [thrTo, if_pos (by simpa [hk] using h)]
theorem thrTo_no {xs : List Int} {t : Int} {k : Nat} (hk : k < xs.length) (h : xs[k] < t) : thrTo xs t (k + 1) = thrTo xs t k := by
  rw [thrTo, if_neg (by simp [hk]; omega)]; rfl
theorem or_pow (m k : Nat) (hk : k < 8) (hm : m < 2 ^ k) : bits BinOp.or IntKind.i64 (m : Int) (2 ^ k) = (m : Int) + 2 ^ k := by
  have H : ∀ k : Fin 8, ∀ m : Fin 256, m.val < 2 ^ k.val → bits BinOp.or IntKind.i64 (m.val : Int) (2 ^ k.val) = (m.val : Int) + 2 ^ k.val := by decide +kernel
  have : (2 : Nat) ^ k ≤ 2 ^ 7 := Nat.pow_le_pow_right (by omega) (by omega)
  exact H ⟨k, hk⟩ ⟨m, by omega⟩ hm

/-- What ThresholdMask returns. -/
def thrN (xs : List Int) (t : Int) : Int := if 1 ≤ xs.length ∧ xs.length ≤ 8 then (thrTo xs t xs.length : Int) else -1


set_option maxHeartbeats 400000 in
theorem implThr (v : Value) (xs : List Int) (t : Int) (w : World) (h : Ints w v xs) :
    Calls Try.prog 10 #[v, .int .i64 t] w fun e w' => e = .returned (.int .i64 (thrN xs t)) ∧ w = w' := by
  obtain ⟨ao, cap, rfl, hcap, hmax, hnil, hcell⟩ := h
  have HC := Lib.hid hcell; clear hcell
  unfold maxLen at hmax
  by_cases hn : 1 ≤ xs.length ∧ xs.length ≤ 8
  · have HE : Hid (thrN xs t = thrTo xs t xs.length) := by show _ = _; unfold thrN; rw [if_pos hn]
    have ht := tf_InP_yes (lo := 1) (n := xs.length) (hi := 8) (by omega) (by omega)
    obtain ⟨hn1, hn2⟩ := hn
    go_enter Try.func10, Try.ntmps10
    go_wp2_with (go_at_call 29; refine (isWires _ _).mono ?_; rintro e w' ⟨rfl, rfl⟩)
    go_loop [5, 14] (fun m i => ∃ k q : Nat, k ≤ xs.length ∧ i = .int .i64 k ∧ m = .int .i64 q ∧ Hid (q = thrTo xs t k)) (fun _ i => xs.length - (intOf i).toNat)
    case atStart => exact ⟨0, 0, Nat.zero_le _, rfl, rfl, rfl⟩
    case round =>
      obtain ⟨k, q, hk, rfl, rfl, HQ⟩ := hrel
      by_cases hlt : k < xs.length
      · obtain ⟨b, o, u, rfl, hu, rfl, hwf⟩ := HC.out k hlt
        clear hwf
        have hq : q < 2 ^ k := by rw [HQ.out]; exact thrTo_lt xs t k
        have hw := wrap_pow k (by omega)
        have hor := or_pow q k (by omega) hq
        by_cases hx : t ≤ xs[k]
        · have R : Hid (((q : Int) + 2 ^ k) = (thrTo xs t (k + 1) : Int)) := by
            show _ = _; rw [thrTo_yes hlt hx, HQ.out]; simp
          clear hq
          go_wp2
          go_round
          case rel => exact ⟨k + 1, thrTo xs t (k + 1), by omega, by go_num, by rw [R.out], rfl⟩
          case measure => simp [intOf]; omega
        · have hx' : xs[k] < t := by omega
          have R : Hid (q = thrTo xs t (k + 1)) := by show _ = _; rw [thrTo_no hlt hx', HQ.out]
          clear hx hq
          go_wp2
          go_round
          case rel => exact ⟨k + 1, q, by omega, by go_num, rfl, R⟩
          case measure => simp [intOf]; omega
      · obtain rfl : k = xs.length := by omega
        go_wp2
        go_ret
        exact ⟨ret_int (by rw [HE.out, HQ.out]), rfl⟩
  · have HE : Hid (thrN xs t = -1) := by show _ = _; unfold thrN; rw [if_neg hn]
    have ht := tf_InP_no (lo := 1) (n := xs.length) (hi := 8) (by omega)
    clear hn
    go_enter Try.func10, Try.ntmps10
    go_wp2_with (go_at_call 29; refine (isWires _ _).mono ?_; rintro e w' ⟨rfl, rfl⟩)
    go_ret
    exact ⟨ret_int HE.out.symm, rfl⟩

/-- What MasksOk says of its first k masks. -/
def MaskAt (n : Nat) (xs : List Int) (i : Nat) (h : i < xs.length) : Prop := InP 0 xs[i] (2 ^ n - 1) ∧ (0 < i → xs.getD (i - 1) 0 < xs[i])
def MasksP (n : Int) (xs : List Int) : Prop := InP 1 n 8 ∧ ∀ i (h : i < xs.length), MaskAt n.toNat xs i h

theorem getD_get {xs : List Int} {i : Nat} (h : i < xs.length) : xs.getD i 0 = xs[i] := by simp [h]

theorem mask_snoc {n : Nat} {xs : List Int} {k : Nat} {hlt : k < xs.length} (HA : Hid (∀ i (h : i < xs.length), i < k → MaskAt n xs i h)) (hd : MaskAt n xs k hlt) :
    Hid (∀ i (h : i < xs.length), i < k + 1 → MaskAt n xs i h) := by
  intro j h hj
  rcases Nat.lt_or_ge j k with h1 | h1
  · exact HA j h h1
  · obtain rfl : j = k := by omega
    exact hd

theorem mask_ways (n : Nat) (xs : List Int) (k : Nat) (h : k < xs.length) : (tf (InP 0 xs[k] (2 ^ n - 1)) = false ∧ ¬ MaskAt n xs k h) ∨ (tf (InP 0 xs[k] (2 ^ n - 1)) = true ∧ k = 0 ∧ MaskAt n xs k h) ∨
    (tf (InP 0 xs[k] (2 ^ n - 1)) = true ∧ 1 ≤ k ∧ xs[k] ≤ xs.getD (k - 1) 0 ∧ ¬ MaskAt n xs k h) ∨ (tf (InP 0 xs[k] (2 ^ n - 1)) = true ∧ 1 ≤ k ∧ xs.getD (k - 1) 0 < xs[k] ∧ MaskAt n xs k h) := by
  rcases Classical.em (InP 0 xs[k] (2 ^ n - 1)) with h1 | h1
  · rcases Nat.eq_zero_or_pos k with h2 | h2
    · exact .inr (.inl ⟨tf_yes h1, h2, h1, fun h => by omega⟩)
    · rcases (show xs.getD (k - 1) 0 < xs[k] ∨ xs[k] ≤ xs.getD (k - 1) 0 by omega) with h3 | h3
      · exact .inr (.inr (.inr ⟨tf_yes h1, h2, h3, h1, fun _ => h3⟩))
      · exact .inr (.inr (.inl ⟨tf_yes h1, h2, h3, fun h => by have := h.2 h2; omega⟩))
  · exact .inl ⟨tf_no h1, fun h => h1 h.1⟩



end Go.Proofs.Ytjinaiggpngieaa
