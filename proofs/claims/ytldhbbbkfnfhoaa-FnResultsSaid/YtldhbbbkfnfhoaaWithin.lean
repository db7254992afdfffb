/- Contracts: IsWithin, the program's (by a map) and the reference's (by two loops). -/
import Derived.Test.YtldhbbbkfnfhoaaSlice
import Derived.Test.YtldhbbbkfnfhoaaMapB
namespace Go.Proofs.Ytldhbbbkfnfhoaa
open Go.RowKit
set_option linter.unusedVariables false

def Within (xs ys : List Int) : Prop := ∀ i (h : i < xs.length), xs[i] ∈ ys

theorem tf_mem_snoc (x y : Int) (l : List Int) : tf (x ∈ l ++ [y]) = (tf (x ∈ l) || (x == y)) := by
  rw [tf_dec, tf_dec, Bool.eq_iff_iff]; simp

theorem zeroBool (w : World) : (zeroValue 4).run Try.prog w = .ok (.bool false) w := by kernel_rfl

theorem within_snoc {xs ys : List Int} {k : Nat} {hlt : k < xs.length} (HA : Hid (∀ i (h : i < xs.length), i < k → xs[i] ∈ ys)) (hd : xs[k] ∈ ys) :
    Hid (∀ i (h : i < xs.length), i < k + 1 → xs[i] ∈ ys) := by
  intro j h hj
  rcases Nat.lt_or_ge j k with h1 | h1
  · exact HA j h h1
  · obtain rfl : j = k := by omega
    exact hd

set_option maxHeartbeats 800000 in
theorem implIsWithin (v1 v2 : Value) (xs ys : List Int) (w : World) (h1 : Ints w v1 xs) (h2 : Ints w v2 ys) (hl2 : ys.length ≤ 1048576) :
    Calls Try.prog 9 #[v1, v2] w (GivesB w (tf (Within xs ys))) := by
  obtain ⟨ao, cap, rfl, hcap, hmax, hnil, hcell⟩ := h1
  obtain ⟨ao2, cap2, rfl, hcap2, hmax2, hnil2, hcell2⟩ := h2
  have HC := Lib.hid hcell; clear hcell
  have HC2 := Lib.hid hcell2; clear hcell2
  unfold maxLen at hmax hmax2
  have hmm := @run_makeMap Try.prog
  go_enter Try.func9, Try.ntmps9
  go_wp2
  go_loopw [13] (fun i wr => ∃ k : Nat, k ≤ ys.length ∧ i = .int .i64 k ∧ MapB Try.prog 3 4 wr w.heap.size k (ys.take k) ∧ Below w.heap.size w wr) (fun i _ => ys.length - (intOf i).toNat)
  case atStart => exact ⟨0, Nat.zero_le _, rfl, MapB.made _ _ _ _, (Below.refl _ _).alloc (Nat.le_refl _) _⟩
  case round =>
    obtain ⟨k, hk, rfl, hown, hb⟩ := hrel
    by_cases hlt : k < ys.length
    · obtain ⟨b, o, u, rfl, hu, rfl, hwf⟩ := HC2.out k hlt
      have c1 := Below.keeps hb _ _ hu
      have HW := Lib.hid hwf
      clear hu hwf
      go_wp2_with (at_mapUpdate; refine wpList_updateB _ rfl _ _ _ 55 rfl 3 4 Try.underlying3 Try.underlying55 Try.underlying4 w.heap.size k _ rfl hown (by unfold maxLen; omega) _ rfl HW.out rfl ?_; intro w1 hown1 hg1)
      have R1 : MapB Try.prog 3 4 w1 w.heap.size (k + 1) (ys.take (k + 1)) := by rw [List.take_succ_eq_append_getElem hlt]; exact hown1
      have R2 := hb.grown hg1 hb.size (fun j hj => by cases hj; exact Nat.le_refl _)
      clear hown hown1 hg1 hb
      go_wp2
      go_roundw
      case rel => exact ⟨k + 1, by omega, by go_num, R1, R2⟩
      case measure => simp [intOf]; omega
    · obtain rfl : k = ys.length := by omega
      have hown1 : MapB Try.prog 3 4 wr w.heap.size ys.length ys := by rw [List.take_length] at hown; exact hown
      clear hown
      go_wp2
      go_loop [22] (fun i => ∃ k : Nat, k ≤ xs.length ∧ i = .int .i64 k ∧ Hid (∀ i (h : i < xs.length), i < k → xs[i] ∈ ys)) (fun i => xs.length - (intOf i).toNat)
      case atStart => exact ⟨0, Nat.zero_le _, rfl, fun _ _ h => absurd h (Nat.not_lt_zero _)⟩
      case round =>
        obtain ⟨k, hk, rfl, HA⟩ := hrel
        by_cases hlt : k < xs.length
        · obtain ⟨b, o, u, rfl, hu, rfl, hwf⟩ := HC.out k hlt
          have c1 := Below.keeps hb _ _ hu
          have HW := Lib.hid hwf
          clear hu hwf
          rcases Classical.em (xs[k] ∈ ys) with hd | hd
          · have ht : tf (xs[k] ∈ ys) = true := tf_yes hd
            have HR := within_snoc (hlt := hlt) HA hd
            clear hd
            go_wp2_with (at_lookup; refine wpList_lookupB _ rfl _ _ 55 rfl 3 4 Try.underlying3 Try.underlying55 Try.underlying4 (zeroBool _) w.heap.size ys.length _ rfl hown1 _ rfl HW.out ?_; rw [ht])
            go_round
            case rel => exact ⟨k + 1, by omega, by go_num, HR⟩
            case measure => simp [intOf]; omega
          · have ht : tf (xs[k] ∈ ys) = false := tf_no hd
            have HR := Lib.hid (tf_no (p := Within xs ys) fun h => hd (h k hlt))
            clear hd
            go_wp2_with (at_lookup; refine wpList_lookupB _ rfl _ _ 55 rfl 3 4 Try.underlying3 Try.underlying55 Try.underlying4 (zeroBool _) w.heap.size ys.length _ rfl hown1 _ rfl HW.out ?_; rw [ht])
            go_ret
            exact ⟨ret_bool HR.out.symm, hb⟩
        · have HR := Lib.hid (tf_yes (p := Within xs ys) fun i h => HA i h (by omega))
          go_wp2
          go_ret
          exact ⟨ret_bool HR.out.symm, hb⟩

end Go.Proofs.Ytldhbbbkfnfhoaa
