/- Contracts: FitsInto, the doors. -/
import Derived.Test.YtldhbbbkfnfhoaaFits
namespace Go.Proofs.Ytldhbbbkfnfhoaa
open Go.RowKit
set_option linter.unusedVariables false

/-- FitsInto says yes. -/
def FitsP (n : Int) (a b : List Int) : Prop := MasksP n a ∧ MasksP n b ∧ n ≤ 5 ∧ FitP n.toNat a b


set_option maxHeartbeats 800000 in
set_option maxRecDepth 100000 in
theorem implFitsInto (n : Int) (va : Value) (a : List Int) (vb : Value) (b : List Int) (w : World) (hn : (Lit.int .i64 n).wf = true) (hA : Ints w va a) (hla : a.length ≤ 1048576) (hB : Ints w vb b) (hlb : b.length ≤ 1048576) :
    Calls Try.prog 17 #[.int .i64 n, va, vb] w (GivesB w (tf (FitsP n a b))) := by
  have HA := Lib.hid hA
  have HB := Lib.hid hB
  obtain ⟨aa, ca, rfl, ka1, ka2, _, _⟩ := hA
  obtain ⟨ab, cb, rfl, kb1, kb2, _, _⟩ := hB
  unfold maxLen at ka2 kb2
  obtain ⟨T, HT⟩ : ∃ T, Hid (tf (FitsP n a b) = T) := ⟨_, rfl⟩
  rw [HT.out]
  go_enter Try.func17, Try.ntmps17
  go_wp2_with fail
  refine (implMasksOk n _ a w HA.out).mono ?_; rintro e w' ⟨rfl, rfl⟩
  by_cases h1 : MasksP n a
  · rw [tf_yes h1]
    go_wp2_with fail
    refine (implMasksOk n _ b w HB.out).mono ?_; rintro e w' ⟨rfl, rfl⟩
    by_cases h2 : MasksP n b
    · rw [tf_yes h2]
      obtain ⟨N, rfl⟩ : ∃ N : Nat, n = (N : Int) := ⟨n.toNat, by have := h1.1.1; omega⟩
      by_cases h3 : N ≤ 5
      · have hd : decide ((N : Int) ≤ 5) = true := decide_eq_true (by omega)
        go_wp2_with fail
        refine (implFits N _ _ a b w HA.out HB.out h1 h2 h3 hla hlb).mono ?_; rintro e w' ⟨rfl, bw⟩
        obtain rfl : tf (FitP N a b) = T := by
          rw [← HT.out]
          exact tf_congr ⟨fun h => ⟨h1, h2, by omega, by rw [Int.toNat_natCast]; exact h⟩, fun h => by have := h.2.2.2; rw [Int.toNat_natCast] at this; exact this⟩
        go_wp2
        go_ret
        exact ⟨rfl, bw⟩
      · have hd : decide ((N : Int) ≤ 5) = false := decide_eq_false (by omega)
        obtain rfl : T = false := by rw [← HT.out, tf_no (fun h => h3 (by have := h.2.2.1; omega))]
        go_wp2
        go_ret
        exact ⟨rfl, Below.refl _ _⟩
    · rw [tf_no h2]
      obtain rfl : T = false := by rw [← HT.out, tf_no (fun h => h2 h.2.1)]
      go_wp2
      go_ret
      exact ⟨rfl, Below.refl _ _⟩
  · rw [tf_no h1]
    obtain rfl : T = false := by rw [← HT.out, tf_no (fun h => h1 h.1)]
    go_wp2
    go_ret
    exact ⟨rfl, Below.refl _ _⟩
end Go.Proofs.Ytldhbbbkfnfhoaa
