/- Contracts: a mask run through a comparator, and through a valid network: step, bits, l03Apply. -/
import Derived.Test.YtldhbbbkfnfhoaaNetOk
namespace Go.Proofs.Ytldhbbbkfnfhoaa
open Go.RowKit
set_option linter.unusedVariables false

theorem step (m i k : Nat) (w : World) (hm : m < 256) (hi : i < 8) (hk : k < 8) :
    Calls Try.prog 31 #[.int .i64 m, .int .i64 i, .int .i64 k] w fun e w' => e = .returned (.int .i64 (stepN m i k)) ∧ ∃ n, w' = w.drewN n := by
  have hwi := wrap_pow i (by omega)
  have hwk := wrap_pow k (by omega)
  rcases step_ways m i k hm hi hk with ⟨h1, h2, h3, h4⟩ | ⟨h1, h2, h3⟩ | ⟨h1, h3⟩
  · have HS := (step_swap m i k hm hi hk h3 h4).1
    have hb1 : ((bits BinOp.and IntKind.i64 ((m : Int) / 2 ^ k) 1) == 0) = true := by rw [h2]; rfl
    clear h3 h4
    go_enter Try.func31, Try.ntmps31
    go_wp2
    go_quiet (fail)
    go_wp2
    go_ret
    exact ⟨rfl, _, rfl⟩
  · have H3 := Lib.hid h3
    clear h3
    go_enter Try.func31, Try.ntmps31
    go_wp2
    go_ret
    exact ⟨ret_int (by rw [H3.out]), 0, rfl⟩
  · have H3 := Lib.hid h3
    clear h3
    go_enter Try.func31, Try.ntmps31
    go_wp2
    go_ret
    exact ⟨ret_int (by rw [H3.out]), 0, rfl⟩

set_option maxHeartbeats 400000 in
theorem bits (n : Int) (v : Value) (N : Nat) (ps : List (Nat × Nat)) (m : Nat) (w : World) (h : IntSS w v (rowsOf ps)) (hp : PsOk N ps) (hm : m < 256) :
    Calls Try.prog 28 #[.agg #[.int .i64 n, v], .int .i64 m] w (GivesN w (bitsN ps m)) := by
  obtain ⟨ao, cap, rfl, hcap, hmax, hnil, hcell⟩ := pairs_open h
  have HC := Lib.hid hcell; clear hcell h
  have HP := Lib.hid hp; clear hp
  unfold maxLen at hmax
  have h60 : ps.length ≤ 60 := HP.out.2.2.1
  go_enter Try.func28, Try.ntmps28
  go_wp2
  go_loopw [1, 10] (fun a i wr => ∃ k q : Nat, k ≤ ps.length ∧ i = .int .i64 k ∧ a = .int .i64 q ∧ Hid (q = bitsN (ps.take k) m) ∧ Below w.heap.size w wr) (fun _ i _ => ps.length - (intOf i).toNat)
  case atStart => exact ⟨0, m, Nat.zero_le _, rfl, rfl, rfl, (Below.refl _ _).alloc (Nat.le_refl _) _⟩
  case round =>
    obtain ⟨k, q, hk, rfl, rfl, HQ, hb⟩ := hrel
    by_cases hlt : k < ps.length
    · obtain ⟨b, o, x, po, pc, rfl, hu, g1, g2, d0, d1⟩ := HC.out k hlt
      have c1 := Below.keeps hb _ _ hu
      have c2 := Below.keeps hb _ _ d0
      have c3 := Below.keeps hb _ _ d1
      have hq : q < 256 := by rw [HQ.out]; exact bitsN_lt HP.out m hm k hk
      obtain ⟨hn1, hn8, _, hall⟩ := HP.out
      obtain ⟨p1, p2, _⟩ := hall k hlt
      have HS : Hid (stepN q ps[k].1 ps[k].2 = bitsN (ps.take (k + 1)) m) := by show _ = _; rw [bitsN_snoc ps m k hlt, HQ.out]
      have C : Hid (∀ W, Calls Try.prog 31 #[.int .i64 q, .int .i64 (ps[k].1 : Int), .int .i64 (ps[k].2 : Int)] W fun e w' => e = .returned (.int .i64 (stepN q ps[k].1 ps[k].2)) ∧ ∃ n, w' = W.drewN n) :=
        fun W => step q ps[k].1 ps[k].2 W hq (by omega) (by omega)
      clear hu d0 d1 hall p1 p2 hq
      unfold maxLen at g2
      go_wp2
      go_quiet ((go_at_call 31; exact Calls.quiet_of (C.out _)))
      go_wp2
      go_roundw
      case rel => exact ⟨k + 1, _, by omega, by go_num, rfl, HS, below_drewN hb _⟩
      case measure => simp [intOf]; omega
    · have HE : Hid (q = bitsN ps m) := by show _ = _; rw [HQ.out, List.take_of_length_le (by omega)]
      go_wp2
      go_ret
      exact ⟨ret_int (by rw [HE.out]), hb⟩

end Go.Proofs.Ytldhbbbkfnfhoaa
