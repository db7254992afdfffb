/- Contracts: LevelsOf, DepthOf, the program's and the reference's. -/
import Derived.Test.YthcnmaapcniehaaLevels
import Derived.Test.YthcnmaapcniehaaUp
namespace Go.Proofs.Ythcnmaapcniehaa
open Go.RowKit
set_option linter.unusedVariables false

/-- What LevelsOf returns. -/
noncomputable def levN (n : Int) (rows : List (List Int)) : List Int := bif tf (NetP n rows) then levL (pairsOf rows) else []
theorem levN_no {n : Int} {rows : List (List Int)} (h : ¬ NetP n rows) : levN n rows = [] := by unfold levN; rw [tf_no h]; rfl
theorem levN_yes {n : Int} {rows : List (List Int)} (h : NetP n rows) : levN n rows = levL (pairsOf rows) := by unfold levN; rw [tf_yes h]; rfl
theorem levN_le (n : Int) (rows : List (List Int)) : (levN n rows).length ≤ 60 := by
  rcases Classical.em (NetP n rows) with h | h
  · have h' := h
    obtain ⟨N, rfl, _, hp⟩ := h.pairs
    rw [levN_yes h', levL_length]; exact hp.2.2.1
  · rw [levN_no h]; simp
/-- The greatest of the first k numbers, and nought. -/
def maxTo (xs : List Int) (k : Nat) : Int := (xs.take k).foldl max 0
theorem maxTo_succ (xs : List Int) (k : Nat) (h : k < xs.length) : maxTo xs (k + 1) = max (maxTo xs k) xs[k] := by
  unfold maxTo; rw [List.take_succ_eq_append_getElem h, List.foldl_append]; rfl
/-- What DepthOf returns. -/
noncomputable def depN (n : Int) (rows : List (List Int)) : Int := bif tf (NetP n rows) then maxTo (levL (pairsOf rows)) rows.length else -1
theorem depN_no {n : Int} {rows : List (List Int)} (h : ¬ NetP n rows) : depN n rows = -1 := by unfold depN; rw [tf_no h]; rfl
theorem depN_yes {n : Int} {rows : List (List Int)} (h : NetP n rows) : depN n rows = maxTo (levL (pairsOf rows)) rows.length := by unfold depN; rw [tf_yes h]; rfl
theorem pairsOf_length' (rows : List (List Int)) : (pairsOf rows).length = rows.length := by simp [pairsOf]

set_option maxHeartbeats 800000 in
theorem specDepthOf (n : Int) (v : Value) (rows : List (List Int)) (w : World) (hn : (Lit.int .i64 n).wf = true) (h : IntSS w v rows) (hl : rows.length + sumLen rows ≤ 1048576) :
    Calls Try.prog 14 #[.agg #[.int .i64 n, v]] w (GivesN w (depN n rows)) := by
  have hk : Hid (∀ W, Below w.heap.size w W → IntSS W v rows) := fun W hb => h.keep (Below.keeps hb)
  obtain ⟨ao, cap, hv, _⟩ := h
  clear hn hl
  rcases Classical.em (NetP n rows) with hN | hN
  · have ht := tf_yes hN
    have hN' := hN
    have h60 := hN.2.1
    obtain ⟨N, rfl, hr, hp⟩ := hN.pairs
    have HE := Lib.hid (depN_yes hN')
    have HP := Lib.hid hp
    have HR := Lib.hid hr
    have hL : (levL (pairsOf rows)).length = rows.length := by rw [levL_length, pairsOf_length']
    subst hv
    clear hN hN' hp hr
    go_enter Try.func14, Try.ntmps14
    go_wp2_with fail
    refine (specNetworkOk _ _ rows _ (hk.out _ ((Below.refl _ _).alloc (Nat.le_refl _) _))).mono ?_; rintro e w1 ⟨rfl, b1⟩
    obtain ⟨cn, cv, b0, z⟩ := box_cells b1
    go_wp2_with fail
    refine (l02Levels N _ (pairsOf rows) _ (by rw [← HR.out]; exact hk.out _ b0) HP.out).mono ?_; rintro e w2 ⟨u, rfl, R2, b2⟩
    have R := b0.trans (b2.mono b0.size)
    obtain ⟨ao2, cap2, hu, hc2, hm2, _, hcell⟩ := R2.ints
    rw [hL] at hu hc2
    have HC := Lib.hid hcell
    subst hu
    unfold maxLen at hm2
    clear hcell R2
    go_wp2
    go_loop [3, 12] (fun s i => ∃ k : Nat, k ≤ rows.length ∧ i = .int .i64 k ∧ ∃ z : Int, s = .int .i64 z ∧ Hid (z = maxTo (levL (pairsOf rows)) k)) (fun _ i => rows.length - (intOf i).toNat)
    case atStart => exact ⟨0, Nat.zero_le _, rfl, 0, rfl, Lib.hid rfl⟩
    case round =>
      obtain ⟨k, hk, rfl, z, rfl, HZ⟩ := hrel
      by_cases hlt : k < rows.length
      · obtain ⟨b, q, u, rfl, hu, rfl, hwf⟩ := HC.out k (by rw [hL]; exact hlt)
        obtain ⟨y, HY⟩ : ∃ y, Hid ((levL (pairsOf rows))[k]'(by rw [hL]; exact hlt) = y) := ⟨_, Lib.hid rfl⟩
        rw [HY.out] at hu
        have HM : Hid (maxTo (levL (pairsOf rows)) (k + 1) = max z y) := by show _ = _; rw [maxTo_succ _ _ (by rw [hL]; exact hlt), HY.out, HZ.out]
        clear hwf
        rcases Int.lt_or_le z y with hzy | hzy
        · have HM2 : Hid (y = maxTo (levL (pairsOf rows)) (k + 1)) := by show _ = _; rw [HM.out]; omega
          go_wp2
          go_round
          case rel => exact ⟨k + 1, by omega, by go_num, y, by first | rfl | go_num, HM2⟩
          case measure => simp [intOf]; omega
        · have HM2 : Hid (z = maxTo (levL (pairsOf rows)) (k + 1)) := by show _ = _; rw [HM.out]; omega
          go_wp2
          go_round
          case rel => exact ⟨k + 1, by omega, by go_num, z, by first | rfl | go_num, HM2⟩
          case measure => simp [intOf]; omega
      · have HF : Hid (z = depN N rows) := by show _ = _; rw [HE.out, HZ.out, show k = rows.length by omega]
        go_wp2
        go_ret
        exact ⟨ret_int HF.out, R⟩
  · have ht := tf_no hN
    have HE := Lib.hid (depN_no hN)
    subst hv
    clear hN
    go_enter Try.func14, Try.ntmps14
    go_wp2_with fail
    refine (specNetworkOk _ _ rows _ (hk.out _ ((Below.refl _ _).alloc (Nat.le_refl _) _))).mono ?_; rintro e w1 ⟨rfl, b1⟩
    obtain ⟨cn, cv, b0, z⟩ := box_cells b1
    go_wp2
    go_ret
    exact ⟨ret_int HE.out.symm, b0⟩
end Go.Proofs.Ythcnmaapcniehaa
