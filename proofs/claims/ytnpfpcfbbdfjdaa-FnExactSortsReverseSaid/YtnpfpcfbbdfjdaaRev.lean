/- Contracts: SortsReverse, the program's and the reference's. -/
import Derived.Test.YtnpfpcfbbdfjdaaRises
import Derived.Test.YtnpfpcfbbdfjdaaAllMasks
namespace Go.Proofs.Ytnpfpcfbbdfjdaa
open Go.RowKit
set_option linter.unusedVariables false

/-- The numbers from N - 1 down, j of them. -/
def revTo (N j : Nat) : List Int := (List.range j).map fun (i : Nat) => (N : Int) - 1 - i
theorem revTo_succ (N j : Nat) : revTo N (j + 1) = revTo N j ++ [(N : Int) - 1 - j] := by simp [revTo, List.range_succ]
theorem revTo_length (N j : Nat) : (revTo N j).length = j := by simp [revTo]
/-- SortsReverse's truth. -/
def SrP (n : Int) (rows : List (List Int)) : Prop := SoP n rows (revTo n.toNat n.toNat)

set_option maxHeartbeats 1600000 in
set_option maxRecDepth 100000 in
theorem specSortsReverse (n : Int) (v : Value) (rows : List (List Int)) (w : World) (hn : (Lit.int .i64 n).wf = true) (h : IntSS w v rows) (hl : rows.length + sumLen rows ≤ 1048576) :
    Calls Try.prog 24 #[.agg #[.int .i64 n, v]] w (GivesB w (tf (SrP n rows))) := by
  have hk : Hid (∀ W, Below w.heap.size w W → IntSS W v rows) := fun W hb => h.keep (Below.keeps hb)
  obtain ⟨ao, cap, hv, _⟩ := h
  have HNW := Lib.hid hn
  clear hn
  rcases Classical.em (NetP n rows) with hN | hN
  · have ht := tf_yes hN
    have hN' := hN
    obtain ⟨N, rfl, hr, hp⟩ := hN.pairs
    have HP := Lib.hid hp
    have HR := Lib.hid hr
    have hN8 := hp.2.1
    have hA : ApP N rows (revTo N N) := ⟨hN', by rw [revTo_length]⟩
    have HS : Hid (tf (RisesP (apL (pairsOf rows) (revTo N N))) = tf (SrP N rows)) := by
      show _ = _
      refine tf_congr ?_
      unfold SrP SoP
      rw [Int.toNat_natCast, anN_yes hA]
      exact ⟨fun hh => ⟨hA, hh⟩, fun hh => hh.2⟩
    subst hv
    clear hN hN' hp hr hA
    go_enter Try.func24, Try.ntmps24
    go_wp2_with fail
    refine (specNetworkOk _ _ rows _ (hk.out _ ((Below.refl _ _).alloc (Nat.le_refl _) _))).mono ?_; rintro e w1 ⟨rfl, b1⟩
    obtain ⟨cn, cv, b0, z⟩ := box_cells b1
    have hso : w.heap.size + 1 ≤ w1.heap.size := z
    have cn1 := cn
    have cv1 := cv
    go_wp2
    go_loopw [3, 4] (fun o i wr => ∃ j : Nat, j ≤ N ∧ i = .int .i64 ((N : Int) - 1 - j) ∧ OwnI tInt wr (w.heap.size + 1) wr.heap.size o (revTo N j) ∧ Below w.heap.size w wr ∧ w.heap.size + 1 ≤ wr.heap.size ∧ wr.cell? ⟨w.heap.size, 0, none⟩ = some (.int .i64 N) ∧ wr.cell? ⟨w.heap.size, 1, none⟩ = some (.slice ao rows.length cap)) (fun _ i _ => (intOf i + 1).toNat)
    case atStart =>
      have hb := Below.keeps ((Below.refl _ w1).alloc (Nat.le_refl _) (.cells #[] 3))
      exact ⟨0, Nat.zero_le _, by first | rfl | simp, OwnI.lit0 3 w1 (w.heap.size + 1) hso, b0.alloc (by omega) _, by simp; omega, hb _ _ cn1, hb _ _ cv1⟩
    case round =>
      clear cn cv cn1 cv1
      obtain ⟨j, hj, rfl, hown, hb, hz, cn, cv⟩ := hrel
      by_cases hlt : j < N
      · have hzz : w.heap.size < wr.heap.size := by omega
        have HI : Hid (In64 ((N : Int) - 1 - j)) := WalkArith.wf_i64 (by omega)
        have hrl := revTo_length N j
        go_wp2_with (at_builtin; refine wpList_append1 _ rfl _ _ 25 rfl 3 (.int .i64 0) 8 Try.underlying25 infoInt (by decide) rfl (w.heap.size + 1) wr.heap.size _ _ rfl (hown.1.alloc _) ⟨wr.heap.size, 0, none⟩ 1 (.int .i64 ((N : Int) - 1 - j)) rfl (cell_alloc0 _ _ _) rfl ?_ ?_ ?_)
        · simp [hrl]; omega
        · simp; omega
        · intro v' w3 hown' hg
          have R1 := OwnI.snoc hown' hown.2 HI.out
          rw [← revTo_succ] at R1
          have R2 := below_app ((Below.refl (w.heap.size + 1) wr).alloc hz _) (hown.1.alloc _) hg (Nat.le_refl _) (by simp; omega)
          have hb := hb.trans (R2.mono (Nat.le_succ _))
          have cn := (R2.cell (p := ⟨w.heap.size, 0, none⟩) (Nat.lt_succ_self _)).trans cn
          have cv := (R2.cell (p := ⟨w.heap.size, 1, none⟩) (Nat.lt_succ_self _)).trans cv
          have hz3 : w.heap.size + 1 ≤ w3.heap.size := Nat.le_trans hz R2.size
          clear hown hown' hg R2 hrl
          go_wp2
          go_roundw
          case rel => exact ⟨j + 1, by omega, by go_num, R1, hb, hz3, cn, cv⟩
          case measure => simp [intOf]; omega
      · obtain rfl : j = N := by omega
        have hzz : w.heap.size < wr.heap.size := by omega
        obtain ⟨pq, lq, cq, hpq⟩ := OwnI.shape hown
        subst hpq
        have hxs := Lib.hid hown.ints
        have hrl := Lib.hid (revTo_length j j)
        have HP2 := HP
        clear hown
        go_wp2_with fail
        refine (l02Apply j _ _ (pairsOf rows) (revTo j j) _ (by rw [← HR.out]; exact hk.out _ hb) hxs.out HP.out hrl.out).mono ?_; rintro e w2 ⟨u2, rfl, R2, b2⟩
        have bA := hb.trans (b2.mono hb.size)
        have RI := Lib.hid R2.ints
        obtain ⟨pp, ll, cc, hpv⟩ := OwnI.shape R2
        subst hpv
        clear R2
        go_wp2_with fail
        refine (l03Rises _ (apL (pairsOf rows) (revTo j j)) _ RI.out).mono ?_; rintro e w3 ⟨rfl, b3⟩
        have R := bA.trans (b3.mono bA.size)
        go_wp2
        go_ret
        exact ⟨ret_bool HS.out, R⟩
  · have ht := tf_no hN
    have HE : Hid (tf (SrP n rows) = false) := tf_no fun hh => hN hh.1.1
    subst hv
    clear hN
    go_enter Try.func24, Try.ntmps24
    go_wp2_with fail
    refine (specNetworkOk _ _ rows _ (hk.out _ ((Below.refl _ _).alloc (Nat.le_refl _) _))).mono ?_; rintro e w1 ⟨rfl, b1⟩
    obtain ⟨cn, cv, b0, z⟩ := box_cells b1
    go_wp2
    go_ret
    exact ⟨ret_bool HE.out.symm, b0⟩
set_option maxHeartbeats 1600000 in
set_option maxRecDepth 100000 in
theorem implSortsReverse (n : Int) (v : Value) (rows : List (List Int)) (w : World) (hn : (Lit.int .i64 n).wf = true) (h : IntSS w v rows) (hl : rows.length + sumLen rows ≤ 1048576) :
    Calls Try.prog 25 #[.agg #[.int .i64 n, v]] w (GivesB w (tf (SrP n rows))) := by
  have hk : Hid (∀ W, Below w.heap.size w W → IntSS W v rows) := fun W hb => h.keep (Below.keeps hb)
  obtain ⟨ao, cap, hv, _⟩ := h
  have HNW := Lib.hid hn
  clear hn
  rcases Classical.em (NetP n rows) with hN | hN
  · have ht := tf_yes hN
    have hN' := hN
    obtain ⟨N, rfl, hr, hp⟩ := hN.pairs
    have HP := Lib.hid hp
    have HR := Lib.hid hr
    have hN8 := hp.2.1
    have hA : ApP N rows (revTo N N) := ⟨hN', by rw [revTo_length]⟩
    have HS : Hid (tf (RisesP (apL (pairsOf rows) (revTo N N))) = tf (SrP N rows)) := by
      show _ = _
      refine tf_congr ?_
      unfold SrP SoP
      rw [Int.toNat_natCast, anN_yes hA]
      exact ⟨fun hh => ⟨hA, hh⟩, fun hh => hh.2⟩
    subst hv
    clear hN hN' hp hr hA
    go_enter Try.func25, Try.ntmps25
    go_wp2_with fail
    refine (implNetworkOk _ _ rows _ (hk.out _ ((Below.refl _ _).alloc (Nat.le_refl _) _))).mono ?_; rintro e w1 ⟨rfl, b1⟩
    obtain ⟨cn, cv, b0, z⟩ := box_cells b1
    have hso : w.heap.size + 1 ≤ w1.heap.size := z
    have cn1 := cn
    have cv1 := cv
    go_wp2
    go_loopw [3, 11] (fun o i wr => ∃ j : Nat, j ≤ N ∧ i = .int .i64 j ∧ OwnI tInt wr (w.heap.size + 1) wr.heap.size o (revTo N j) ∧ Below w.heap.size w wr ∧ w.heap.size + 1 ≤ wr.heap.size ∧ wr.cell? ⟨w.heap.size, 0, none⟩ = some (.int .i64 N) ∧ wr.cell? ⟨w.heap.size, 1, none⟩ = some (.slice ao rows.length cap)) (fun _ i _ => N - (intOf i).toNat)
    case atStart =>
      have hb := Below.keeps ((Below.refl _ w1).alloc (Nat.le_refl _) (.cells #[] 3))
      exact ⟨0, Nat.zero_le _, by first | rfl | simp, OwnI.lit0 3 w1 (w.heap.size + 1) hso, b0.alloc (by omega) _, by simp; omega, hb _ _ cn1, hb _ _ cv1⟩
    case round =>
      clear cn cv cn1 cv1
      obtain ⟨j, hj, rfl, hown, hb, hz, cn, cv⟩ := hrel
      by_cases hlt : j < N
      · have hzz : w.heap.size < wr.heap.size := by omega
        have HI : Hid (In64 ((N : Int) - 1 - j)) := WalkArith.wf_i64 (by omega)
        have hrl := revTo_length N j
        go_wp2_with (at_builtin; refine wpList_append1 _ rfl _ _ 25 rfl 3 (.int .i64 0) 8 Try.underlying25 infoInt (by decide) rfl (w.heap.size + 1) wr.heap.size _ _ rfl (hown.1.alloc _) ⟨wr.heap.size, 0, none⟩ 1 (.int .i64 ((N : Int) - 1 - j)) rfl (cell_alloc0 _ _ _) rfl ?_ ?_ ?_)
        · simp [hrl]; omega
        · simp; omega
        · intro v' w3 hown' hg
          have R1 := OwnI.snoc hown' hown.2 HI.out
          rw [← revTo_succ] at R1
          have R2 := below_app ((Below.refl (w.heap.size + 1) wr).alloc hz _) (hown.1.alloc _) hg (Nat.le_refl _) (by simp; omega)
          have hb := hb.trans (R2.mono (Nat.le_succ _))
          have cn := (R2.cell (p := ⟨w.heap.size, 0, none⟩) (Nat.lt_succ_self _)).trans cn
          have cv := (R2.cell (p := ⟨w.heap.size, 1, none⟩) (Nat.lt_succ_self _)).trans cv
          have hz3 : w.heap.size + 1 ≤ w3.heap.size := Nat.le_trans hz R2.size
          clear hown hown' hg R2 hrl
          go_wp2
          go_roundw
          case rel => exact ⟨j + 1, by omega, by go_num, R1, hb, hz3, cn, cv⟩
          case measure => simp [intOf]; omega
      · obtain rfl : j = N := by omega
        have hzz : w.heap.size < wr.heap.size := by omega
        obtain ⟨pq, lq, cq, hpq⟩ := OwnI.shape hown
        subst hpq
        go_wp2_with fail
        refine (implSortsOrder j _ rows _ (revTo j j) _ HNW.out (hk.out _ hb) hl hown.ints (by rw [revTo_length]; omega)).mono ?_; rintro e w2 ⟨rfl, b2⟩
        have R := hb.trans (b2.mono hb.size)
        clear hown
        go_wp2
        go_ret
        exact ⟨rfl, R⟩
  · have ht := tf_no hN
    have HE : Hid (tf (SrP n rows) = false) := tf_no fun hh => hN hh.1.1
    subst hv
    clear hN
    go_enter Try.func25, Try.ntmps25
    go_wp2_with fail
    refine (implNetworkOk _ _ rows _ (hk.out _ ((Below.refl _ _).alloc (Nat.le_refl _) _))).mono ?_; rintro e w1 ⟨rfl, b1⟩
    obtain ⟨cn, cv, b0, z⟩ := box_cells b1
    go_wp2
    go_ret
    exact ⟨ret_bool HE.out.symm, b0⟩
end Go.Proofs.Ytnpfpcfbbdfjdaa
