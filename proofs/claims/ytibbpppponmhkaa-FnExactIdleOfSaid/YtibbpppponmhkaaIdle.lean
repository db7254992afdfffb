/- Contracts: IdleOf, the program's and the reference's. -/
import Derived.Test.YtibbpppponmhkaaUse
import Derived.Test.YtibbpppponmhkaaAllMasks
import Derived.Test.YtibbpppponmhkaaApp
namespace Go.Proofs.Ytibbpppponmhkaa
open Go.RowKit
set_option linter.unusedVariables false

/-- The places below k that hold nought. -/
def zeroB (xs : List Int) (k : Nat) : Bool := xs.getD k 0 == 0
def zeroI (xs : List Int) (k : Nat) : List Int := ((List.range k).filter (zeroB xs)).map fun (i : Nat) => (i : Int)
theorem zeroI_zero (xs : List Int) : zeroI xs 0 = [] := rfl
theorem zeroI_yes {xs : List Int} {k : Nat} (h : zeroB xs k = true) : zeroI xs (k + 1) = zeroI xs k ++ [(k : Int)] := by
  unfold zeroI; rw [List.range_succ, List.filter_append]; simp [h]
theorem zeroI_no {xs : List Int} {k : Nat} (h : zeroB xs k = false) : zeroI xs (k + 1) = zeroI xs k := by
  unfold zeroI; rw [List.range_succ, List.filter_append]; simp [h]
theorem zeroI_le (xs : List Int) (k : Nat) : (zeroI xs k).length ≤ k := by
  unfold zeroI; rw [List.length_map]; exact Nat.le_trans (List.length_filter_le _ _) (by simp)
/-- What IdleOf returns. -/
noncomputable def idleN (n : Int) (rows : List (List Int)) : List Int := bif tf (NetP n rows) then zeroI (useL n.toNat (pairsOf rows)) rows.length else []
theorem idleN_no {n : Int} {rows : List (List Int)} (h : ¬ NetP n rows) : idleN n rows = [] := by unfold idleN; rw [tf_no h]; rfl
theorem idleN_yes {N : Nat} {rows : List (List Int)} (h : NetP N rows) : idleN N rows = zeroI (useL N (pairsOf rows)) rows.length := by unfold idleN; rw [tf_yes h]; rfl
theorem idleN_le (n : Int) (rows : List (List Int)) : (idleN n rows).length ≤ 60 := by
  rcases Classical.em (NetP n rows) with h | h
  · have h' := h
    obtain ⟨N, rfl, _, hp⟩ := h.pairs
    rw [idleN_yes h']; exact Nat.le_trans (zeroI_le _ _) h'.2.1
  · rw [idleN_no h]; simp
theorem pairsOf_length (rows : List (List Int)) : (pairsOf rows).length = rows.length := by simp [pairsOf]

set_option maxHeartbeats 800000 in
set_option maxRecDepth 100000 in
theorem specIdleOf (n : Int) (v : Value) (rows : List (List Int)) (w : World) (hn : (Lit.int .i64 n).wf = true) (h : IntSS w v rows) (hl : rows.length + sumLen rows ≤ 1048576) :
    Calls Try.prog 20 #[.agg #[.int .i64 n, v]] w (GivesI w (idleN n rows)) := by
  have hk : Hid (∀ W, Below w.heap.size w W → IntSS W v rows) := fun W hb => h.keep (Below.keeps hb)
  obtain ⟨ao, cap, hv, _⟩ := h
  clear hn hl
  rcases Classical.em (NetP n rows) with hN | hN
  · have ht := tf_yes hN
    have hN' := hN
    have h60 := hN.2.1
    obtain ⟨N, rfl, hr, hp⟩ := hN.pairs
    have HE := Lib.hid (idleN_yes hN')
    have HP := Lib.hid hp
    have HR := Lib.hid hr
    have hL : (useL N (pairsOf rows)).length = rows.length := by rw [useL_length, pairsOf_length]
    rw [HE.out]
    subst hv
    clear hN hN' hp hr
    go_enter Try.func20, Try.ntmps20
    go_wp2_with fail
    refine (specNetworkOk _ _ rows _ (hk.out _ ((Below.refl _ _).alloc (Nat.le_refl _) _))).mono ?_; rintro e w1 ⟨rfl, b1⟩
    obtain ⟨cn, cv, b0, z⟩ := box_cells b1
    go_wp2_with fail
    refine (l06Use N _ (pairsOf rows) _ (by rw [← HR.out]; exact hk.out _ (b0.trans ((Below.refl _ _).alloc b0.size _))) HP.out).mono ?_; rintro e w2 ⟨u, rfl, R2, b2⟩
    have hso : w.heap.size ≤ w1.heap.size := b0.size
    have bO : Below w1.heap.size w1 w2 := ((Below.refl _ _).alloc (Nat.le_refl _) _).trans (b2.mono (by simp))
    have R0 : OwnI tInt w2 w.heap.size (w1.heap.size + 1) (.slice (some ⟨w1.heap.size, 0, none⟩) 0 0) [] := by
      have := (OwnI.lit0 3 w1 w.heap.size hso).below b2 (by simp)
      simpa using this
    have bw : Below w.heap.size w w2 := b0.trans (bO.mono hso)
    have hsz : w1.heap.size + 1 ≤ w2.heap.size := by have := b2.size; simpa using this
    obtain ⟨ao2, cap2, hu, hc2, hm2, _, hcell⟩ := R2.ints
    rw [hL] at hu hc2
    have HC := Lib.hid hcell
    have hlt2 : ∀ g, u.ownBlock = some g → w1.heap.size + 1 ≤ g ∧ g < w2.heap.size := fun g hg => by have := R2.1.lt hg; simp at this; omega
    subst hu
    unfold maxLen at hm2
    clear hcell R2
    go_wp2
    have hao : ∀ b q, ao2 = some ⟨b, q, none⟩ → w1.heap.size + 1 ≤ b ∧ b < w2.heap.size := fun b q hb => by
      subst hb
      have := hlt2 b rfl
      exact this
    clear hlt2
    go_loopw [3, 13] (fun o i wr => ∃ k : Nat, k ≤ rows.length ∧ i = .int .i64 k ∧ OwnI tInt wr w.heap.size wr.heap.size o (zeroI (useL N (pairsOf rows)) k) ∧ (∃ g, o.ownBlock = some g ∧ (g = w1.heap.size ∨ w2.heap.size ≤ g)) ∧ Below w.heap.size w wr ∧ w2.heap.size ≤ wr.heap.size ∧ Hid (∀ b, b < w2.heap.size → b ≠ w1.heap.size → wr.heap[b]? = w2.heap[b]?)) (fun _ i _ => rows.length - (intOf i).toNat)
    case atStart => exact ⟨0, Nat.zero_le _, rfl, R0.wide (Nat.le_refl _) hsz, ⟨w1.heap.size, rfl, .inl rfl⟩, bw, Nat.le_refl _, Lib.hid fun _ _ _ => rfl⟩
    case round =>
      obtain ⟨k, hk, rfl, hown, ⟨g, hg0, hgg⟩, hb, hs, HB⟩ := hrel
      have hg := Lib.hid hg0; clear hg0
      by_cases hlt : k < rows.length
      · obtain ⟨b, q, u, rfl, hu, rfl, hwf⟩ := HC.out k (by rw [hL]; exact hlt)
        have hbb := hao b q rfl
        have c1 : wr.cell? ⟨b, q + k, none⟩ = some (.int .i64 (useL N (pairsOf rows))[k]) := (World.cell?_of_block (HB.out b hbb.2 (by omega))).trans hu
        have hgd : (useL N (pairsOf rows)).getD k 0 = (useL N (pairsOf rows))[k]'(by rw [hL]; exact hlt) := by
          rw [List.getD_eq_getElem?_getD, List.getElem?_eq_getElem (by rw [hL]; exact hlt)]; rfl
        obtain ⟨z, HZ⟩ : ∃ z, Hid ((useL N (pairsOf rows))[k]'(by rw [hL]; exact hlt) = z) := ⟨_, Lib.hid rfl⟩
        rw [HZ.out] at c1 hgd
        have hle := zeroI_le (useL N (pairsOf rows)) k
        clear hu hwf
        by_cases hz0 : z = 0
        · have HY := Lib.hid (zeroI_yes (xs := useL N (pairsOf rows)) (k := k) (by unfold zeroB; rw [hgd, hz0]; rfl))
          clear HZ hgd
          subst hz0
          go_wp2_with (at_builtin; refine wpList_append1_at _ rfl _ _ 26 rfl 3 (.int .i64 0) 8 Try.underlying26 infoInt (by decide) rfl w.heap.size wr.heap.size _ _ rfl (hown.1.alloc _) ⟨wr.heap.size, 0, none⟩ 1 (.int .i64 k) rfl (cell_alloc0 _ _ _) rfl ?_ ?_ ?_)
          · simp; omega
          · simp; omega
          · intro v' w3 hown' hgr hat
            have R1 := OwnI.snoc hown' hown.2 (show In64 (k : Int) from WalkArith.wf_i64 (by omega))
            rw [← HY.out] at R1
            have R2 := below_app (hb.alloc (by omega) _) (hown.1.alloc _) hgr (Nat.le_refl _) (by simp; omega)
            have hs3 : w2.heap.size ≤ w3.heap.size := by have := hgr.size; simp at this; omega
            have HB3 : Hid (∀ b, b < w2.heap.size → b ≠ w1.heap.size → w3.heap[b]? = w2.heap[b]?) := fun b hb1 hb2 =>
              ((hgr.block b (by simp; omega) (by rw [hg.out]; intro hh; simp only [Option.some.injEq] at hh; omega)).trans (Below.heap_alloc _ _ _ (by omega))).trans (HB.out b hb1 hb2)
            have hG : ∃ g, v'.ownBlock = some g ∧ (g = w1.heap.size ∨ w2.heap.size ≤ g) := by
              rcases hat with hat | hat
              · exact ⟨g, by rw [hat, hg.out], hgg⟩
              · exact ⟨wr.heap.size + 1, hat.trans (by simp), .inr (by omega)⟩
            clear hown hown' hgr hat HB hg hgg
            go_wp2
            go_roundw
            case rel => exact ⟨k + 1, by omega, by go_num, R1, hG, R2, hs3, HB3⟩
            case measure => simp [intOf]; omega
        · have HY := Lib.hid (zeroI_no (xs := useL N (pairsOf rows)) (k := k) (by unfold zeroB; rw [hgd]; simpa using hz0))
          rw [← HY.out] at hown
          clear HZ hgd
          go_wp2
          go_roundw
          case rel => exact ⟨k + 1, by omega, by go_num, hown, ⟨g, hg.out, hgg⟩, hb, hs, HB⟩
          case measure => simp [intOf]; omega
      · obtain rfl : k = rows.length := by omega
        go_wp2
        go_ret
        exact ⟨_, rfl, hown, hb⟩
  · have ht := tf_no hN
    rw [idleN_no hN]
    subst hv
    clear hN
    go_enter Try.func20, Try.ntmps20
    go_wp2_with fail
    refine (specNetworkOk _ _ rows _ (hk.out _ ((Below.refl _ _).alloc (Nat.le_refl _) _))).mono ?_; rintro e w1 ⟨rfl, b1⟩
    obtain ⟨cn, cv, b0, z⟩ := box_cells b1
    go_wp2
    go_ret
    exact ⟨_, rfl, ⟨Own.nil _ _ _ _, by simp⟩, b0⟩
set_option maxHeartbeats 800000 in
set_option maxRecDepth 100000 in
theorem implIdleOf (n : Int) (v : Value) (rows : List (List Int)) (w : World) (hn : (Lit.int .i64 n).wf = true) (h : IntSS w v rows) (hl : rows.length + sumLen rows ≤ 1048576) :
    Calls Try.prog 21 #[.agg #[.int .i64 n, v]] w (GivesI w (idleN n rows)) := by
  have hk : Hid (∀ W, Below w.heap.size w W → IntSS W v rows) := fun W hb => h.keep (Below.keeps hb)
  obtain ⟨ao, cap, hv, _⟩ := h
  clear hn hl
  rcases Classical.em (NetP n rows) with hN | hN
  · have ht := tf_yes hN
    have hN' := hN
    have h60 := hN.2.1
    obtain ⟨N, rfl, hr, hp⟩ := hN.pairs
    have HE := Lib.hid (idleN_yes hN')
    have HP := Lib.hid hp
    have HR := Lib.hid hr
    have hL : (useL N (pairsOf rows)).length = rows.length := by rw [useL_length, pairsOf_length]
    rw [HE.out]
    subst hv
    clear hN hN' hp hr
    go_enter Try.func21, Try.ntmps21
    go_wp2_with fail
    refine (implNetworkOk _ _ rows _ (hk.out _ ((Below.refl _ _).alloc (Nat.le_refl _) _))).mono ?_; rintro e w1 ⟨rfl, b1⟩
    obtain ⟨cn, cv, b0, z⟩ := box_cells b1
    go_wp2_with fail
    refine (uses N _ (pairsOf rows) _ (by rw [← HR.out]; exact hk.out _ (b0.trans ((Below.refl _ _).alloc b0.size _))) HP.out).mono ?_; rintro e w2 ⟨u, rfl, R2, b2⟩
    have hso : w.heap.size ≤ w1.heap.size := b0.size
    have bO : Below w1.heap.size w1 w2 := ((Below.refl _ _).alloc (Nat.le_refl _) _).trans (b2.mono (by simp))
    have R0 : OwnI tInt w2 w.heap.size (w1.heap.size + 1) (.slice (some ⟨w1.heap.size, 0, none⟩) 0 0) [] := by
      have := (OwnI.lit0 3 w1 w.heap.size hso).below b2 (by simp)
      simpa using this
    have bw : Below w.heap.size w w2 := b0.trans (bO.mono hso)
    have hsz : w1.heap.size + 1 ≤ w2.heap.size := by have := b2.size; simpa using this
    obtain ⟨ao2, cap2, hu, hc2, hm2, _, hcell⟩ := R2.ints
    rw [hL] at hu hc2
    have HC := Lib.hid hcell
    have hlt2 : ∀ g, u.ownBlock = some g → w1.heap.size + 1 ≤ g ∧ g < w2.heap.size := fun g hg => by have := R2.1.lt hg; simp at this; omega
    subst hu
    unfold maxLen at hm2
    clear hcell R2
    go_wp2
    have hao : ∀ b q, ao2 = some ⟨b, q, none⟩ → w1.heap.size + 1 ≤ b ∧ b < w2.heap.size := fun b q hb => by
      subst hb
      have := hlt2 b rfl
      exact this
    clear hlt2
    go_loopw [3, 13] (fun o i wr => ∃ k : Nat, k ≤ rows.length ∧ i = .int .i64 k ∧ OwnI tInt wr w.heap.size wr.heap.size o (zeroI (useL N (pairsOf rows)) k) ∧ (∃ g, o.ownBlock = some g ∧ (g = w1.heap.size ∨ w2.heap.size ≤ g)) ∧ Below w.heap.size w wr ∧ w2.heap.size ≤ wr.heap.size ∧ Hid (∀ b, b < w2.heap.size → b ≠ w1.heap.size → wr.heap[b]? = w2.heap[b]?)) (fun _ i _ => rows.length - (intOf i).toNat)
    case atStart => exact ⟨0, Nat.zero_le _, rfl, R0.wide (Nat.le_refl _) hsz, ⟨w1.heap.size, rfl, .inl rfl⟩, bw, Nat.le_refl _, Lib.hid fun _ _ _ => rfl⟩
    case round =>
      obtain ⟨k, hk, rfl, hown, ⟨g, hg0, hgg⟩, hb, hs, HB⟩ := hrel
      have hg := Lib.hid hg0; clear hg0
      by_cases hlt : k < rows.length
      · obtain ⟨b, q, u, rfl, hu, rfl, hwf⟩ := HC.out k (by rw [hL]; exact hlt)
        have hbb := hao b q rfl
        have c1 : wr.cell? ⟨b, q + k, none⟩ = some (.int .i64 (useL N (pairsOf rows))[k]) := (World.cell?_of_block (HB.out b hbb.2 (by omega))).trans hu
        have hgd : (useL N (pairsOf rows)).getD k 0 = (useL N (pairsOf rows))[k]'(by rw [hL]; exact hlt) := by
          rw [List.getD_eq_getElem?_getD, List.getElem?_eq_getElem (by rw [hL]; exact hlt)]; rfl
        obtain ⟨z, HZ⟩ : ∃ z, Hid ((useL N (pairsOf rows))[k]'(by rw [hL]; exact hlt) = z) := ⟨_, Lib.hid rfl⟩
        rw [HZ.out] at c1 hgd
        have hle := zeroI_le (useL N (pairsOf rows)) k
        clear hu hwf
        by_cases hz0 : z = 0
        · have HY := Lib.hid (zeroI_yes (xs := useL N (pairsOf rows)) (k := k) (by unfold zeroB; rw [hgd, hz0]; rfl))
          clear HZ hgd
          subst hz0
          go_wp2_with (at_builtin; refine wpList_append1_at _ rfl _ _ 26 rfl 3 (.int .i64 0) 8 Try.underlying26 infoInt (by decide) rfl w.heap.size wr.heap.size _ _ rfl (hown.1.alloc _) ⟨wr.heap.size, 0, none⟩ 1 (.int .i64 k) rfl (cell_alloc0 _ _ _) rfl ?_ ?_ ?_)
          · simp; omega
          · simp; omega
          · intro v' w3 hown' hgr hat
            have R1 := OwnI.snoc hown' hown.2 (show In64 (k : Int) from WalkArith.wf_i64 (by omega))
            rw [← HY.out] at R1
            have R2 := below_app (hb.alloc (by omega) _) (hown.1.alloc _) hgr (Nat.le_refl _) (by simp; omega)
            have hs3 : w2.heap.size ≤ w3.heap.size := by have := hgr.size; simp at this; omega
            have HB3 : Hid (∀ b, b < w2.heap.size → b ≠ w1.heap.size → w3.heap[b]? = w2.heap[b]?) := fun b hb1 hb2 =>
              ((hgr.block b (by simp; omega) (by rw [hg.out]; intro hh; simp only [Option.some.injEq] at hh; omega)).trans (Below.heap_alloc _ _ _ (by omega))).trans (HB.out b hb1 hb2)
            have hG : ∃ g, v'.ownBlock = some g ∧ (g = w1.heap.size ∨ w2.heap.size ≤ g) := by
              rcases hat with hat | hat
              · exact ⟨g, by rw [hat, hg.out], hgg⟩
              · exact ⟨wr.heap.size + 1, hat.trans (by simp), .inr (by omega)⟩
            clear hown hown' hgr hat HB hg hgg
            go_wp2
            go_roundw
            case rel => exact ⟨k + 1, by omega, by go_num, R1, hG, R2, hs3, HB3⟩
            case measure => simp [intOf]; omega
        · have HY := Lib.hid (zeroI_no (xs := useL N (pairsOf rows)) (k := k) (by unfold zeroB; rw [hgd]; simpa using hz0))
          rw [← HY.out] at hown
          clear HZ hgd
          go_wp2
          go_roundw
          case rel => exact ⟨k + 1, by omega, by go_num, hown, ⟨g, hg.out, hgg⟩, hb, hs, HB⟩
          case measure => simp [intOf]; omega
      · obtain rfl : k = rows.length := by omega
        go_wp2
        go_ret
        exact ⟨_, rfl, hown, hb⟩
  · have ht := tf_no hN
    rw [idleN_no hN]
    subst hv
    clear hN
    go_enter Try.func21, Try.ntmps21
    go_wp2_with fail
    refine (implNetworkOk _ _ rows _ (hk.out _ ((Below.refl _ _).alloc (Nat.le_refl _) _))).mono ?_; rintro e w1 ⟨rfl, b1⟩
    obtain ⟨cn, cv, b0, z⟩ := box_cells b1
    go_wp2
    go_ret
    exact ⟨_, rfl, ⟨Own.nil _ _ _ _, by simp⟩, b0⟩
end Go.Proofs.Ytibbpppponmhkaa
