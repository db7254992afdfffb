/- Contracts: LevelsOf, DepthOf, the program's and the reference's. -/
import Derived.Test.YthcnmaapcniehaaNetOk
import Derived.Test.YthcnmaapcniehaaFill
import Derived.Test.YthcnmaapcniehaaAllMasks
import Derived.RegionTactic
namespace Go.Proofs.Ythcnmaapcniehaa
open Go.RowKit
set_option linter.unusedVariables false

def levStep (s : (Nat → Int) × List Int) (p : Nat × Nat) : (Nat → Int) × List Int :=
  (fun i => if i = p.2 ∨ i = p.1 then 1 + max (s.1 p.1) (s.1 p.2) else s.1 i, s.2 ++ [1 + max (s.1 p.1) (s.1 p.2)])
/-- The levels of all wires and of the first k comparators. -/
def levTo (ps : List (Nat × Nat)) (k : Nat) : (Nat → Int) × List Int := (ps.take k).foldl levStep (fun _ => 0, [])
theorem levTo_succ (ps : List (Nat × Nat)) (k : Nat) (h : k < ps.length) : levTo ps (k + 1) = levStep (levTo ps k) ps[k] := by
  unfold levTo; rw [List.take_succ_eq_append_getElem h, List.foldl_append]; rfl
theorem levTo_at (ps : List (Nat × Nat)) (k : Nat) : k ≤ ps.length → (∀ i, 0 ≤ (levTo ps k).1 i ∧ (levTo ps k).1 i ≤ k) ∧ (levTo ps k).2.length = k ∧ ∀ x ∈ (levTo ps k).2, 0 ≤ x ∧ x ≤ k := by
  induction k with
  | zero => intro _; exact ⟨fun i => ⟨Int.le_refl _, Int.le_refl _⟩, rfl, fun x hx => by simp [levTo] at hx⟩
  | succ k ih =>
    intro hk
    obtain ⟨h1, h2, h3⟩ := ih (by omega)
    rw [levTo_succ ps k hk]
    have a := h1 ps[k].1; have b := h1 ps[k].2
    refine ⟨fun i => ?_, by simp [levStep, h2], fun x hx => ?_⟩
    · have c := h1 i
      unfold levStep
      by_cases hi : i = ps[k].2 ∨ i = ps[k].1
      · simp only [if_pos hi]; omega
      · simp only [if_neg hi]; omega
    · simp only [levStep, List.mem_append, List.mem_singleton] at hx
      rcases hx with hx | hx
      · have := h3 x hx; omega
      · omega
def levL (ps : List (Nat × Nat)) : List Int := (levTo ps ps.length).2
theorem levL_length (ps : List (Nat × Nat)) : (levL ps).length = ps.length := (levTo_at ps ps.length (Nat.le_refl _)).2.1

theorem getD_set (ys : List Int) (i j : Nat) (x : Int) (h : i < ys.length) : (ys.set i x).getD j 0 = if j = i then x else ys.getD j 0 := by
  by_cases hj : j = i
  · subst hj; simp [h]
  · simp [List.getD_eq_getElem?_getD, Ne.symm hj, hj]

set_option maxHeartbeats 1600000 in
set_option maxRecDepth 100000 in
theorem l02Levels (N : Nat) (v : Value) (ps : List (Nat × Nat)) (w : World) (h : IntSS w v (rowsOf ps)) (hp : PsOk N ps) :
    Calls Try.prog 13 #[.agg #[.int .i64 N, v]] w (GivesI w (levL ps)) := by
  obtain ⟨ao, cap, rfl, hcap, hmax, hnil, hcell⟩ := pairs_open h
  have HC := Lib.hid hcell; clear hcell h
  have HP := Lib.hid hp
  unfold maxLen at hmax
  have hN8 := hp.2.1
  have h60 : ps.length ≤ 60 := HP.out.2.2.1
  clear hp
  obtain ⟨i0, hi, hz0, hz1, hz2⟩ := info_parts infoInt
  go_enter Try.func13, Try.ntmps13
  go_wp2_with (at_make; refine wpList_make_full _ rfl _ _ 35 rfl w.heap.size 3 i0 (.int .i64 0) 1 Try.underlying35 hi hz0 hz1 .i64 .i64 _ _ N rfl rfl rfl rfl ?_ ?_ ?_ ?_)
  · rw [hz2]; omega
  · unfold maxLen; omega
  · simp
  intro w1 hown hg
  have F0 : Fills tInt w.heap.size (w.heap.size + 1) N w1 N (List.replicate N 0) := fills_zero (by simpa [toList_madeCells_one] using hown)
  have hb1 : Below (w.heap.size + 1) (w.alloc (.cells #[.int .i64 N, .slice ao ps.length cap] 26)) w1 := (Below.refl _ _).grown hg (by simp) (fun k h => by cases h)
  have hb0 : Below w.heap.size w w1 := ((Below.refl _ w).alloc (Nat.le_refl _) _).trans (hb1.mono (Nat.le_succ _))
  have hs0 : w.heap.size + 1 < w1.heap.size := by have := (hown.lt _ rfl).2; simpa using this
  have hs00 : w.heap.size < w1.heap.size := by omega
  have cv : w1.cell? ⟨w.heap.size, 1, none⟩ = some (.slice ao ps.length cap) := (hb1.cell (p := ⟨w.heap.size, 1, none⟩) (Nat.lt_succ_self _)).trans (by simp [go_sem])
  clear hown hg hi hz0 hz1 hz2 hb1
  go_wp2
  go_loopw [4, 15] (fun o i wr => ∃ k : Nat, k ≤ ps.length ∧ i = .int .i64 k ∧ ∃ ys : List Int, Fills tInt w.heap.size (w.heap.size + 1) N wr N ys ∧ Hid (∀ i, i < N → ys.getD i 0 = (levTo ps k).1 i) ∧ OwnI tInt wr (w.heap.size + 2) wr.heap.size o (levTo ps k).2 ∧ Below w.heap.size w wr ∧ w.heap.size + 1 < wr.heap.size) (fun _ i _ => ps.length - (intOf i).toNat)
  case atStart => exact ⟨0, Nat.zero_le _, rfl, List.replicate N 0, F0.below ((Below.refl (w.heap.size + 2) w1).alloc hs0 _) (Nat.lt_succ_self _), Lib.hid (fun i hi => by simp [levTo, hi]), by have := OwnI.lit0 3 w1 (w.heap.size + 2) hs0; simpa [levTo] using this, hb0.alloc (by omega) _, by simp; omega⟩
  case round =>
    obtain ⟨k, hk, rfl, ys, F, HT, hown, hb, hs⟩ := hrel
    by_cases hlt : k < ps.length
    · obtain ⟨b, o, x, po, pc, rfl, hu, g1, g2, d0, d1⟩ := HC.out k hlt
      have c1 := Below.keeps hb _ _ hu
      have c2 := Below.keeps hb _ _ d0
      have c3 := Below.keeps hb _ _ d1
      obtain ⟨hn1, _, _, hall⟩ := HP.out
      obtain ⟨p1, p2, p3⟩ := hall k hlt
      have e1 := F.getD ps[k].1 p1
      have e2 := F.getD ps[k].2 p2
      rw [HT.out _ p1] at e1
      rw [HT.out _ p2] at e2
      obtain ⟨L1, L2, L3⟩ := levTo_at ps k hk
      have z1 := L1 ps[k].1
      have z2 := L1 ps[k].2
      obtain ⟨x1, X1⟩ : ∃ x, Hid ((levTo ps k).1 ps[k].1 = x) := ⟨_, Lib.hid rfl⟩
      obtain ⟨x2, X2⟩ : ∃ x, Hid ((levTo ps k).1 ps[k].2 = x) := ⟨_, Lib.hid rfl⟩
      rw [X1.out] at e1 z1
      rw [X2.out] at e2 z2
      unfold maxLen at g2
      have hxw : x < w.heap.size := World.block_lt_of_cell? w _ d0
      clear hu d0 d1 hall
      go_wp2
      go_region
      generalize hq : (1 + if x1 < x2 then x2 else x1 : Int) = q
      have hqm : Hid (q = 1 + max x1 x2) := by show _ = _; rw [← hq]; split <;> omega
      have hq0 : 0 ≤ q ∧ q ≤ k + 1 := by have := hqm.out; omega
      clear hq e1 e2
      have f1 := F.getD ps[k].1 p1
      have f3 := F.frozen ps[k].1
      have F2 := F.set ps[k].1 q
      have f2 := F2.getD ps[k].2 p2
      have f4 := F2.frozen ps[k].2
      have F3 := F2.set ps[k].2 q
      have hown := (hown.chg (chg_setCell wr (w.heap.size + 1) ps[k].1 (.int .i64 q)) (.inr (Nat.le_refl _))).chg (chg_setCell _ (w.heap.size + 1) ps[k].2 (.int .i64 q)) (.inr (Nat.le_refl _))
      have hbA : Below w.heap.size w (wr.setCell ⟨w.heap.size + 1, ps[k].1, none⟩ (.int .i64 q)) := hb.setCell (Nat.le_succ _) _
      have hbB : Below w.heap.size w ((wr.setCell ⟨w.heap.size + 1, ps[k].1, none⟩ (.int .i64 q)).setCell ⟨w.heap.size + 1, ps[k].2, none⟩ (.int .i64 q)) := hbA.setCell (Nat.le_succ _) _
      clear hbA hb
      have HT2 : Hid (∀ i, i < N → ((ys.set ps[k].1 q).set ps[k].2 q).getD i 0 = (levTo ps (k + 1)).1 i) := by
        intro i hi
        rw [getD_set _ _ _ _ (by rw [List.length_set, F.1]; exact p2), getD_set _ _ _ _ (by rw [F.1]; exact p1), levTo_succ ps k hlt]
        unfold levStep
        rw [X1.out, X2.out, ← hqm.out]
        by_cases h1 : i = ps[k].2
        · simp [h1]
        · by_cases h2 : i = ps[k].1
          · simp [h2]
          · simp [h1, h2]; exact HT.out i hi
      have HO2 : Hid ((levTo ps (k + 1)).2 = (levTo ps k).2 ++ [q]) := by
        show _ = _; rw [levTo_succ ps k hlt]; unfold levStep; rw [X1.out, X2.out, ← hqm.out]
      clear F F2 HT X1 X2 z1 z2 L3
      go_wp2_with (at_builtin; refine wpList_append1 _ rfl _ _ 35 rfl 3 (.int .i64 0) 8 Try.underlying35 infoInt (by decide) rfl (w.heap.size + 2) wr.heap.size _ _ rfl (hown.1.alloc _) ⟨wr.heap.size, 0, none⟩ 1 (.int .i64 q) rfl (by have := cell_alloc0 ((wr.setCell ⟨w.heap.size + 1, ps[k].1, none⟩ (.int .i64 q)).setCell ⟨w.heap.size + 1, ps[k].2, none⟩ (.int .i64 q)) (.int .i64 q) 3; simpa using this) rfl ?_ ?_ ?_)
      all_goals try (simp [L2]; omega)
      all_goals try (simp; omega)
      all_goals
        intro v' w2 hown' hg
        have R1 := OwnI.snoc hown' hown.2 (show In64 q from WalkArith.wf_i64 (by omega))
        rw [← HO2.out] at R1
        have R2 := below_app (((Below.refl (w.heap.size + 2) _).alloc (by simp; omega) (.cells #[.int .i64 q] 3)).drew) (hown.1.alloc (.cells #[.int .i64 q] 3)) hg (Nat.le_refl _) (by simp; omega)
        have F4 := F3.below R2 (Nat.lt_succ_self _)
        have hb := hbB.trans (R2.mono (by omega))
        have hs4 := R2.size
        simp only [size_setCell] at hs4
        clear hown hown' hg R2 F3 hbB
        go_wp2
        go_roundw
        case rel => exact ⟨k + 1, by omega, by go_num, _, F4, HT2, R1, hb, by omega⟩
        case measure => simp [intOf]; omega
    · have hk' : k = ps.length := by omega
      go_wp2
      go_ret
      unfold levL; rw [← hk']
      exact ⟨_, rfl, hown.wide (by omega) (Nat.le_refl _), hb⟩
set_option maxHeartbeats 1600000 in
set_option maxRecDepth 100000 in
theorem levels (N : Nat) (v : Value) (ps : List (Nat × Nat)) (w : World) (h : IntSS w v (rowsOf ps)) (hp : PsOk N ps) :
    Calls Try.prog 17 #[.agg #[.int .i64 N, v]] w (GivesI w (levL ps)) := by
  obtain ⟨ao, cap, rfl, hcap, hmax, hnil, hcell⟩ := pairs_open h
  have HC := Lib.hid hcell; clear hcell h
  have HP := Lib.hid hp
  unfold maxLen at hmax
  have hN8 := hp.2.1
  have h60 : ps.length ≤ 60 := HP.out.2.2.1
  clear hp
  go_enter Try.func17, Try.ntmps17
  have F0 : Fills 49 w.heap.size (w.heap.size + 1) 8 ((w.alloc (.cells #[.int .i64 (N : Int), .slice ao ps.length cap] 26)).alloc (.cells #[.int .i64 0, .int .i64 0, .int .i64 0, .int .i64 0, .int .i64 0, .int .i64 0, .int .i64 0, .int .i64 0] 49)) 8 (List.replicate 8 0) := by
    have := Fills.lit 49 (w.alloc (.cells #[.int .i64 (N : Int), .slice ao ps.length cap] 26)) w.heap.size (List.replicate 8 0) #[.int .i64 0, .int .i64 0, .int .i64 0, .int .i64 0, .int .i64 0, .int .i64 0, .int .i64 0, .int .i64 0] rfl (by simp) (by decide)
    simpa using this
  go_wp2
  go_loopw [4, 13] (fun o i wr => ∃ k : Nat, k ≤ ps.length ∧ i = .int .i64 k ∧ ∃ ys : List Int, Fills 49 w.heap.size (w.heap.size + 1) 8 wr 8 ys ∧ Hid (∀ i, i < 8 → ys.getD i 0 = (levTo ps k).1 i) ∧ OwnI tInt wr (w.heap.size + 2) wr.heap.size o (levTo ps k).2 ∧ Below w.heap.size w wr ∧ w.heap.size + 1 < wr.heap.size) (fun _ i _ => ps.length - (intOf i).toNat)
  case atStart =>
    refine ⟨0, Nat.zero_le _, rfl, List.replicate 8 0, F0.alloc _, Lib.hid (fun i hi => by match i, hi with | 0, _ | 1, _ | 2, _ | 3, _ | 4, _ | 5, _ | 6, _ | 7, _ => rfl), ?_, (((Below.refl _ w).alloc (Nat.le_refl _) _).alloc (by simp) _).alloc (by simp; omega) _, by simp⟩
    have := OwnI.lit0 3 ((w.alloc (.cells #[.int .i64 (N : Int), .slice ao ps.length cap] 26)).alloc (.cells #[.int .i64 0, .int .i64 0, .int .i64 0, .int .i64 0, .int .i64 0, .int .i64 0, .int .i64 0, .int .i64 0] 49)) (w.heap.size + 2) (by simp)
    simpa [levTo] using this
  case round =>
    obtain ⟨k, hk, rfl, ys, F, HT, hown, hb, hs⟩ := hrel
    by_cases hlt : k < ps.length
    · obtain ⟨b, o, x, po, pc, rfl, hu, g1, g2, d0, d1⟩ := HC.out k hlt
      have c1 := Below.keeps hb _ _ hu
      have c2 := Below.keeps hb _ _ d0
      have c3 := Below.keeps hb _ _ d1
      obtain ⟨hn1, _, _, hall⟩ := HP.out
      obtain ⟨p1, p2, p3⟩ := hall k hlt
      have q1 : ps[k].1 < 8 := by omega
      have q2 : ps[k].2 < 8 := by omega
      have e1 := F.getD' ps[k].1 q1
      have e2 := F.getD' ps[k].2 q2
      rw [HT.out _ q1] at e1
      rw [HT.out _ q2] at e2
      obtain ⟨L1, L2, L3⟩ := levTo_at ps k hk
      have z1 := L1 ps[k].1
      have z2 := L1 ps[k].2
      obtain ⟨x1, X1⟩ : ∃ x, Hid ((levTo ps k).1 ps[k].1 = x) := ⟨_, Lib.hid rfl⟩
      obtain ⟨x2, X2⟩ : ∃ x, Hid ((levTo ps k).1 ps[k].2 = x) := ⟨_, Lib.hid rfl⟩
      rw [X1.out] at e1 z1
      rw [X2.out] at e2 z2
      unfold maxLen at g2
      have hxw : x < w.heap.size := World.block_lt_of_cell? w _ d0
      clear hu d0 d1 hall
      go_wp2
      go_region
      generalize hq : (1 + if x1 < x2 then x2 else x1 : Int) = q
      have hqm : Hid (q = 1 + max x1 x2) := by show _ = _; rw [← hq]; split <;> omega
      have hq0 : 0 ≤ q ∧ q ≤ k + 1 := by have := hqm.out; omega
      clear hq e1 e2
      have f1 := F.getD' ps[k].1 q1
      have f3 := F.frozen ps[k].1
      have F2 := F.set ps[k].1 q
      have f2 := F2.getD' ps[k].2 q2
      have f4 := F2.frozen ps[k].2
      have F3 := F2.set ps[k].2 q
      have hown := (hown.chg (chg_setCell wr (w.heap.size + 1) ps[k].1 (.int .i64 q)) (.inr (Nat.le_refl _))).chg (chg_setCell _ (w.heap.size + 1) ps[k].2 (.int .i64 q)) (.inr (Nat.le_refl _))
      have hbA : Below w.heap.size w (wr.setCell ⟨w.heap.size + 1, ps[k].1, none⟩ (.int .i64 q)) := hb.setCell (Nat.le_succ _) _
      have hbB : Below w.heap.size w ((wr.setCell ⟨w.heap.size + 1, ps[k].1, none⟩ (.int .i64 q)).setCell ⟨w.heap.size + 1, ps[k].2, none⟩ (.int .i64 q)) := hbA.setCell (Nat.le_succ _) _
      clear hbA hb
      have HT2 : Hid (∀ i, i < 8 → ((ys.set ps[k].1 q).set ps[k].2 q).getD i 0 = (levTo ps (k + 1)).1 i) := by
        intro i hi
        rw [getD_set _ _ _ _ (by rw [List.length_set, F.1]; exact q2), getD_set _ _ _ _ (by rw [F.1]; exact q1), levTo_succ ps k hlt]
        unfold levStep
        rw [X1.out, X2.out, ← hqm.out]
        by_cases h1 : i = ps[k].2
        · simp [h1]
        · by_cases h2 : i = ps[k].1
          · simp [h2]
          · simp [h1, h2]; exact HT.out i hi
      have HO2 : Hid ((levTo ps (k + 1)).2 = (levTo ps k).2 ++ [q]) := by
        show _ = _; rw [levTo_succ ps k hlt]; unfold levStep; rw [X1.out, X2.out, ← hqm.out]
      clear F F2 HT X1 X2 z1 z2 L3
      go_wp2
      all_goals
        go_region
        go_wp2_with (at_builtin; refine wpList_append1 _ rfl _ _ 35 rfl 3 (.int .i64 0) 8 Try.underlying35 infoInt (by decide) rfl (w.heap.size + 2) wr.heap.size _ _ rfl (hown.1.alloc _) ⟨wr.heap.size, 0, none⟩ 1 (.int .i64 q) rfl (by have := cell_alloc0 ((wr.setCell ⟨w.heap.size + 1, ps[k].1, none⟩ (.int .i64 q)).setCell ⟨w.heap.size + 1, ps[k].2, none⟩ (.int .i64 q)) (.int .i64 q) 3; simpa using this) rfl ?_ ?_ ?_)
        all_goals try (simp [L2]; omega)
        all_goals try (simp; omega)
        all_goals
          intro v' w2 hown' hg
          have R1 := OwnI.snoc hown' hown.2 (show In64 q from WalkArith.wf_i64 (by omega))
          rw [← HO2.out] at R1
          have R2 := below_app (((Below.refl (w.heap.size + 2) _).alloc (by simp; omega) (.cells #[.int .i64 q] 3)).drew.drew) (hown.1.alloc (.cells #[.int .i64 q] 3)) hg (Nat.le_refl _) (by simp; omega)
          have F4 := F3.below R2 (Nat.lt_succ_self _)
          have hb := hbB.trans (R2.mono (by omega))
          have hs4 := R2.size
          simp only [size_setCell] at hs4
          clear hown hown' hg R2 F3 hbB
          go_wp2
          go_roundw
          case rel => exact ⟨k + 1, by omega, by go_num, _, F4, HT2, R1, hb, by omega⟩
          case measure => simp [intOf]; omega
    · have hk' : k = ps.length := by omega
      go_wp2
      go_ret
      unfold levL; rw [← hk']
      exact ⟨_, rfl, hown.wide (by omega) (Nat.le_refl _), hb⟩
end Go.Proofs.Ythcnmaapcniehaa
