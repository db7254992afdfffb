/- Contracts: AllMasks, the program's and the reference's: a fresh slice of all masks, or nil. -/
import Derived.Test.YtldhbbbkfnfhoaaNums
import Derived.Test.YtldhbbbkfnfhoaaSlice
namespace Go.Proofs.Ytldhbbbkfnfhoaa
open Go.RowKit
set_option linter.unusedVariables false

/-- The numbers from 0 up to n. -/
def upto (n : Nat) : List Int := (List.range n).map fun (i : Nat) => (i : Int)
theorem upto_succ (n : Nat) : upto (n + 1) = upto n ++ [(n : Int)] := by simp [upto, List.range_succ]
theorem upto_length (n : Nat) : (upto n).length = n := by simp [upto]

theorem OwnI.snoc {e : TypeId} {w : World} {lo hi : Nat} {v : Value} {xs : List Int} {x : Int} (h : Own e w lo hi v (xs.map (Value.int .i64) ++ [.int .i64 x])) (hx : ∀ y ∈ xs, In64 y) (h1 : In64 x) : OwnI e w lo hi v (xs ++ [x]) :=
  ⟨by rw [List.map_append]; exact h, fun y hy => by rcases List.mem_append.1 hy with h | h; exact hx y h; simp at h; subst h; exact h1⟩

set_option maxHeartbeats 400000 in
theorem allMasks (n : Nat) (w : World) (hn : n ≤ 8) :
    Calls Try.prog 27 #[.int .i64 n] w (GivesI w (upto (2 ^ n))) := by
  have hw := wrap_pow n hn
  have hq := pow_le8 n hn
  have hc := nat_pow_cast n
  obtain ⟨M, HM⟩ : ∃ M : Nat, Hid (2 ^ n = M) := ⟨_, rfl⟩
  have hM : (2 : Int) ^ n = (M : Int) := by rw [← hc, HM.out]
  rw [HM.out]
  rw [hM] at hw hq
  clear hc
  go_enter Try.func27, Try.ntmps27
  go_wp2
  go_loopw [3, 8] (fun v i wr => ∃ k : Nat, k ≤ M ∧ i = .int .i64 k ∧ OwnI tInt wr w.heap.size wr.heap.size v (upto k) ∧ Below w.heap.size w wr) (fun _ i _ => M - (intOf i).toNat)
  case atStart => exact ⟨0, Nat.zero_le _, rfl, OwnI.lit0 3 w w.heap.size (Nat.le_refl _), (Below.refl _ _).alloc (Nat.le_refl _) _⟩
  case round =>
    obtain ⟨k, hk, rfl, hown, hb⟩ := hrel
    have hs := hb.size
    by_cases hlt : k < M
    · go_wp2_with (at_builtin; refine wpList_append1 _ rfl _ _ 27 rfl 3 (.int .i64 0) 8 Try.underlying27 infoInt (by decide) rfl w.heap.size wr.heap.size _ _ rfl (hown.1.alloc _) ⟨wr.heap.size, 0, none⟩ 1 (.int .i64 k) rfl (cell_alloc0 _ _ _) rfl ?_ ?_ ?_)
      · simp [upto_length]; omega
      · simp; omega
      · intro v' w1 hown' hg
        have R1 := OwnI.snoc hown' hown.2 (show In64 (k : Int) from WalkArith.wf_i64 (by omega))
        rw [← upto_succ] at R1
        have R2 := below_app (hb.alloc hs _) (hown.1.alloc _) hg (Nat.le_refl _) (by simp; omega)
        clear hown hown' hg hb
        go_wp2
        go_roundw
        case rel => exact ⟨k + 1, by omega, by go_num, R1, R2⟩
        case measure => simp [intOf]; omega
    · obtain rfl : k = M := by omega
      go_wp2
      go_ret
      exact ⟨_, rfl, hown, hb⟩

theorem implAllMasks_yes (n : Nat) (w : World) (h1 : 1 ≤ n) (h8 : n ≤ 8) : Calls Try.prog 6 #[.int .i64 n] w (GivesI w (upto (2 ^ n))) := by
  have ht := tf_InP_yes (lo := 1) (n := n) (hi := 8) (by omega) (by omega)
  go_enter Try.func6, Try.ntmps6
  go_wp2_with (first | (go_at_call 29; refine (isWires _ _).mono ?_; rintro e w' ⟨rfl, rfl⟩) | (go_at_call 27; refine (allMasks n _ h8).mono ?_; rintro e w1 ⟨v, rfl, R1, R2⟩))
  go_ret
  exact ⟨_, rfl, R1, R2⟩

/-- What AllMasks returns. -/
def allN (n : Int) : List Int := if 1 ≤ n ∧ n ≤ 8 then upto (2 ^ n.toNat) else []
theorem allN_le (n : Int) : (allN n).length ≤ 256 := by
  unfold allN; split
  · rw [upto_length]; exact Nat.le_trans (Nat.pow_le_pow_right (by omega) (show n.toNat ≤ 8 by omega)) (by decide)
  · simp

theorem givesI_nil (w : World) : GivesI w [] (.returned (.slice none 0 0)) w := ⟨_, rfl, ⟨Own.nil _ _ _ _, by simp⟩, Below.refl _ _⟩

theorem implAllMasks (n : Int) (w : World) : Calls Try.prog 6 #[.int .i64 n] w (GivesI w (allN n)) := by
  by_cases h : 1 ≤ n ∧ n ≤ 8
  · obtain ⟨n, rfl⟩ := Int.eq_ofNat_of_zero_le (show 0 ≤ n by omega)
    unfold allN; rw [if_pos h]
    exact implAllMasks_yes n w (by omega) (by omega)
  · have ht := tf_InP_no (lo := 1) (n := n) (hi := 8) (by omega)
    unfold allN; rw [if_neg h]
    clear h
    go_enter Try.func6, Try.ntmps6
    go_wp2_with (go_at_call 29; refine (isWires _ _).mono ?_; rintro e w' ⟨rfl, rfl⟩)
    go_ret
    exact givesI_nil _
end Go.Proofs.Ytldhbbbkfnfhoaa
