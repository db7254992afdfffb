/- Contracts: FitsInto, the program's and the reference's. -/
import Derived.Test.YtldhbbbkfnfhoaaFitP
import Derived.Test.YtldhbbbkfnfhoaaMasks
import Derived.RegionTactic
namespace Go.Proofs.Ytldhbbbkfnfhoaa
open Go.RowKit
set_option linter.unusedVariables false

set_option maxHeartbeats 1600000 in
set_option maxRecDepth 100000 in
theorem implFits (N : Nat) (va vb : Value) (a b : List Int) (w : World) (hA : Ints w va a) (hB : Ints w vb b) (ha : MasksP N a) (hb : MasksP N b) (hN : N ≤ 5) (hla : a.length ≤ 1048576) (hlb : b.length ≤ 1048576) :
    Calls Try.prog 38 #[.int .i64 N, va, vb] w (GivesB w (tf (FitP N a b))) := by
  have HA : Hid (∀ W, Below w.heap.size w W → Ints W va a) := fun W hW => hA.keep (Below.keeps hW)
  have HB : Hid (∀ W, Below w.heap.size w W → Ints W vb b) := fun W hW => hB.keep (Below.keeps hW)
  have h1N : 1 ≤ N := by have := ha.1.1; omega
  have HM := Lib.hid ha.inM
  clear hA hB ha hb
  obtain ⟨T, HT⟩ : ∃ T, Hid (tf (FitP N a b) = T) := ⟨_, rfl⟩
  rw [HT.out]
  go_enter Try.func38, Try.ntmps38
  go_wp2_with fail
  refine (orders N w hN).mono ?_; rintro e w1 ⟨u, rfl, O, b1⟩
  obtain ⟨L, HL⟩ : ∃ L, Hid (ords N N = L) := ⟨_, rfl⟩
  rw [HL.out] at O
  have HLn : Hid (L.length ≤ 120) := by show _ ≤ _; rw [← HL.out]; exact (ords_ok hN (Nat.le_refl _)).1
  obtain ⟨ao, cap, rfl, hcap, hmax, hnil, hcell⟩ := O.intss
  have HC := Lib.hid hcell
  have hl1 := HLn.out
  unfold maxLen at hmax
  clear hcell O
  go_wp2
  go_loopw [12] (fun i wr => ∃ k : Nat, k ≤ L.length ∧ i = .int .i64 k ∧ Hid (∀ j (h : j < L.length), j < k → ¬ Within (imgL (2 ^ N) (mapF (renM L[j]) a)) b) ∧ Below w1.heap.size w1 wr) (fun i _ => L.length - (intOf i).toNat)
  case atStart => exact ⟨0, Nat.zero_le _, rfl, Lib.hid (fun j _ h => absurd h (Nat.not_lt_zero _)), Below.refl _ _⟩
  case round =>
    obtain ⟨k, hk, rfl, HW, hb⟩ := hrel
    have hs1 := b1.size
    have bw := b1.trans (hb.mono hs1)
    by_cases hlt : k < L.length
    · obtain ⟨bb, oo, u, hao, hu, hI⟩ := HC.out k hlt
      subst hao
      have c1 := Below.keeps hb _ _ hu
      have HI := hI.keep (Below.keeps hb)
      have hPm : PermP N L[k] := ords_perm hN (by rw [HL.out]; exact List.getElem_mem _)
      clear hI hu
      go_wp2_with fail
      refine (renamedMasks N va u a L[k] _ (HA.out _ bw) hla HM.out ⟨h1N, by omega⟩ HI hPm).mono ?_; rintro e w2 ⟨v2, rfl, R2, b2⟩
      have bw2 := bw.trans (b2.mono bw.size)
      go_wp2_with fail
      refine (implIsWithin v2 vb _ b _ R2.ints (HB.out _ bw2) hlb).mono ?_; rintro e w3 ⟨rfl, b3⟩
      have bw3 := bw2.trans (b3.mono bw2.size)
      clear R2
      by_cases hw : Within (imgL (2 ^ N) (mapF (renM L[k]) a)) b
      · rw [tf_yes hw]
        go_wp2
        go_ret
        obtain rfl : T = true := by rw [← HT.out, tf_yes (show FitP N a b from ⟨L[k], by rw [HL.out]; exact List.getElem_mem _, hw⟩)]
        exact ⟨rfl, bw3⟩
      · rw [tf_no hw]
        have HW2 : Hid (∀ j (h : j < L.length), j < k + 1 → ¬ Within (imgL (2 ^ N) (mapF (renM L[j]) a)) b) := by
          intro j h hj
          rcases Nat.lt_or_ge j k with h' | h'
          · exact HW.out j h h'
          · obtain rfl : j = k := by omega
            exact hw
        have hbn : Below w1.heap.size w1 w3 := (hb.trans (b2.mono hb.size)).trans (b3.mono (Nat.le_trans hb.size b2.size))
        clear hw HI hPm c1
        go_wp2
        go_roundw
        case rel => exact ⟨k + 1, by omega, by go_num, HW2, hbn⟩
        case measure => simp [intOf]; omega
    · obtain rfl : k = L.length := by omega
      go_wp2
      go_ret
      obtain rfl : T = false := by
        rw [← HT.out, tf_no]
        rintro ⟨p, hp, hw⟩
        rw [HL.out] at hp
        obtain ⟨j, hj, rfl⟩ := List.getElem_of_mem hp
        exact HW.out j hj hj hw
      exact ⟨rfl, bw⟩

set_option maxHeartbeats 400000 in
theorem l04First (N : Nat) (w : World) (hN : N ≤ 8) : Calls Try.prog 50 #[.int .i64 N] w (GivesI w (upto N)) := by
  go_enter Try.func50, Try.ntmps50
  go_wp2
  go_loopw [3, 4] (fun v i wr => ∃ k : Nat, k ≤ N ∧ i = .int .i64 k ∧ OwnI tInt wr w.heap.size wr.heap.size v (upto k) ∧ Below w.heap.size w wr) (fun _ i _ => N - (intOf i).toNat)
  case atStart => exact ⟨0, Nat.zero_le _, rfl, OwnI.lit0 3 w w.heap.size (Nat.le_refl _), (Below.refl _ _).alloc (Nat.le_refl _) _⟩
  case round =>
    obtain ⟨k, hk, rfl, hown, hb⟩ := hrel
    have hs := hb.size
    by_cases hlt : k < N
    · go_wp2_with (at_builtin; refine wpList_append1 _ rfl _ _ 27 rfl 3 (.int .i64 0) 8 Try.underlying27 infoInt (by decide) rfl w.heap.size wr.heap.size _ _ rfl (hown.1.alloc _) ⟨wr.heap.size, 0, none⟩ 1 (.int .i64 k) rfl (cell_alloc0 _ _ _) rfl ?_ ?_ ?_)
      · simp [upto_length]; omega
      · simp; omega
      · intro v' w1 hown' hg
        have R1 := OwnI.snoc hown' hown.2 (show In64 (k : Int) from WalkArith.wf_i64 (by omega))
        rw [← upto_succ] at R1
        have R2 := below_app (hb.alloc hs _) (hown.1.alloc _) hg (Nat.le_refl _) (by simp; omega)
        clear hown hown' hg hb
        go_wp2
        go_roundw
        case rel => exact ⟨k + 1, by omega, by go_num, R1, R2⟩
        case measure => simp [intOf]; omega
    · obtain rfl : k = N := by omega
      go_wp2
      go_ret
      exact ⟨_, rfl, hown, hb⟩

end Go.Proofs.Ytldhbbbkfnfhoaa
