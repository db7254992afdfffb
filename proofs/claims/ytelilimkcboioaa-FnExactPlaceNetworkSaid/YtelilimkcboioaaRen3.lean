/- Contracts: PlaceNetwork, the program's. -/
import Derived.Test.YtelilimkcboioaaRen2
namespace Go.Proofs.Ytelilimkcboioaa
open Go.RowKit
set_option linter.unusedVariables false

set_option maxHeartbeats 1600000 in
set_option maxRecDepth 100000 in
theorem implPlaceNetwork (n : Int) (v : Value) (rows : List (List Int)) (at_ m : Int) (w : World) (hn : (Lit.int .i64 n).wf = true) (h : IntSS w v rows) (hl : rows.length + sumLen rows ≤ 1048576) (h1 : (Lit.int .i64 at_).wf = true) (h2 : (Lit.int .i64 m).wf = true) :
    Calls Try.prog 33 #[.agg #[.int .i64 n, v], .int .i64 at_, .int .i64 m] w (GivesNB w (nbN (PlP n rows at_ m) m) (nbR (PlP n rows at_ m) (plL rows at_)) (tf (PlP n rows at_ m))) := by
  have hk : Hid (∀ W, Below w.heap.size w W → IntSS W v rows) := fun W hb => h.keep (Below.keeps hb)
  obtain ⟨ao, cap, hv, hcap, hmax, _⟩ := h
  unfold maxLen at hmax
  clear hn hl
  rcases Classical.em (NetP n rows) with hN | hN
  · have ht := tf_yes hN
    have h60 := hN.2.1
    have hN0 := hN
    obtain ⟨N, rfl, hr, hp⟩ := hN.pairs
    have HN := Lib.hid hN0
    have HP := Lib.hid hp
    have HR := Lib.hid hr
    have hN8 := hp.2.1
    have hpl : (pairsOf rows).length = rows.length := by rw [pairsOf, List.length_map]
    have HL := Lib.hid hpl
    subst hv
    clear hN hN0 hp hr hpl
    by_cases h1 : at_ < 0
    · have e1 : decide (at_ < 0) = true := decide_eq_true h1
      have hNP : ¬ PlP N rows at_ m := fun h => by have := h.2; omega
      rw [nbN_no hNP, nbR_no hNP, tf_no hNP]
      clear hNP HN
      go_enter Try.func33, Try.ntmps33
      go_wp2_with fail
      refine (implNetworkOk _ _ rows _ (hk.out _ ((((Below.refl _ _).alloc (Nat.le_refl _) _).alloc (by simp) _).alloc (by simp; omega) _))).mono ?_; rintro e w1 ⟨rfl, b1⟩
      have r1 := (ResC.start ((w.alloc (.cells #[.int .i64 N, .slice ao rows.length cap] 26)).alloc (.cells #[.int .i64 at_] 3)) 26).below b1 (by simp)
      rw [World.size_alloc, World.size_alloc] at r1
      have cx : w1.cell? ⟨w.heap.size, 0, none⟩ = some (.int .i64 N) := (b1.cell (by simp; omega)).trans (by simp [go_sem])
      have cy : w1.cell? ⟨w.heap.size, 1, none⟩ = some (.slice ao rows.length cap) := (b1.cell (by simp; omega)).trans (by simp [go_sem])
      have bw1 : Below w.heap.size w w1 := ((((Below.refl _ _).alloc (Nat.le_refl _) _).alloc (by simp) _).alloc (by simp; omega) _).trans (b1.mono (by simp; omega))
      have s1 : w.heap.size + 3 ≤ w1.heap.size := by have := b1.size; simpa using this
      have y1 : w.heap.size < w1.heap.size := by omega
      have y2 : w.heap.size + 1 < w1.heap.size := by omega
      have ca : w1.cell? ⟨w.heap.size + 1, 0, none⟩ = some (.int .i64 at_) := (b1.cell (by simp)).trans (by simp [go_sem])
      obtain ⟨d0, d1, f0, f1, _⟩ := r1
      go_wp2
      exact bodyPost_ret (v := .tuple #[.agg #[.int .i64 0, .slice none 0 0], .bool false]) (by simp [results, Try.results33, go_sem, d0, d1]) rfl ⟨_, rfl, OwnSS.nil _ _ _ _ _, (bw1.setCell (by first | (simp; done) | (simp; omega)) _).setCell (by first | (simp; done) | (simp; omega)) _⟩
    · have e1 : decide (at_ < 0) = false := decide_eq_false h1
      by_cases h2 : m > 8
      · have e2 : decide (m > 8) = true := decide_eq_true h2
        have hNP : ¬ PlP N rows at_ m := fun h => by have := h.2; omega
        rw [nbN_no hNP, nbR_no hNP, tf_no hNP]
        clear hNP HN
        go_enter Try.func33, Try.ntmps33
        go_wp2_with fail
        refine (implNetworkOk _ _ rows _ (hk.out _ ((((Below.refl _ _).alloc (Nat.le_refl _) _).alloc (by simp) _).alloc (by simp; omega) _))).mono ?_; rintro e w1 ⟨rfl, b1⟩
        have r1 := (ResC.start ((w.alloc (.cells #[.int .i64 N, .slice ao rows.length cap] 26)).alloc (.cells #[.int .i64 at_] 3)) 26).below b1 (by simp)
        rw [World.size_alloc, World.size_alloc] at r1
        have cx : w1.cell? ⟨w.heap.size, 0, none⟩ = some (.int .i64 N) := (b1.cell (by simp; omega)).trans (by simp [go_sem])
        have cy : w1.cell? ⟨w.heap.size, 1, none⟩ = some (.slice ao rows.length cap) := (b1.cell (by simp; omega)).trans (by simp [go_sem])
        have bw1 : Below w.heap.size w w1 := ((((Below.refl _ _).alloc (Nat.le_refl _) _).alloc (by simp) _).alloc (by simp; omega) _).trans (b1.mono (by simp; omega))
        have s1 : w.heap.size + 3 ≤ w1.heap.size := by have := b1.size; simpa using this
        have y1 : w.heap.size < w1.heap.size := by omega
        have y2 : w.heap.size + 1 < w1.heap.size := by omega
        have ca : w1.cell? ⟨w.heap.size + 1, 0, none⟩ = some (.int .i64 at_) := (b1.cell (by simp)).trans (by simp [go_sem])
        obtain ⟨d0, d1, f0, f1, _⟩ := r1
        go_wp2
        exact bodyPost_ret (v := .tuple #[.agg #[.int .i64 0, .slice none 0 0], .bool false]) (by simp [results, Try.results33, go_sem, d0, d1]) rfl ⟨_, rfl, OwnSS.nil _ _ _ _ _, (bw1.setCell (by first | (simp; done) | (simp; omega)) _).setCell (by first | (simp; done) | (simp; omega)) _⟩
      · have e2 : decide (m > 8) = false := decide_eq_false h2
        by_cases h3 : at_ > m
        · have e3 : decide (at_ > m) = true := decide_eq_true h3
          have hNP : ¬ PlP N rows at_ m := fun h => by have := h.2; omega
          rw [nbN_no hNP, nbR_no hNP, tf_no hNP]
          clear hNP HN
          go_enter Try.func33, Try.ntmps33
          go_wp2_with fail
          refine (implNetworkOk _ _ rows _ (hk.out _ ((((Below.refl _ _).alloc (Nat.le_refl _) _).alloc (by simp) _).alloc (by simp; omega) _))).mono ?_; rintro e w1 ⟨rfl, b1⟩
          have r1 := (ResC.start ((w.alloc (.cells #[.int .i64 N, .slice ao rows.length cap] 26)).alloc (.cells #[.int .i64 at_] 3)) 26).below b1 (by simp)
          rw [World.size_alloc, World.size_alloc] at r1
          have cx : w1.cell? ⟨w.heap.size, 0, none⟩ = some (.int .i64 N) := (b1.cell (by simp; omega)).trans (by simp [go_sem])
          have cy : w1.cell? ⟨w.heap.size, 1, none⟩ = some (.slice ao rows.length cap) := (b1.cell (by simp; omega)).trans (by simp [go_sem])
          have bw1 : Below w.heap.size w w1 := ((((Below.refl _ _).alloc (Nat.le_refl _) _).alloc (by simp) _).alloc (by simp; omega) _).trans (b1.mono (by simp; omega))
          have s1 : w.heap.size + 3 ≤ w1.heap.size := by have := b1.size; simpa using this
          have y1 : w.heap.size < w1.heap.size := by omega
          have y2 : w.heap.size + 1 < w1.heap.size := by omega
          have ca : w1.cell? ⟨w.heap.size + 1, 0, none⟩ = some (.int .i64 at_) := (b1.cell (by simp)).trans (by simp [go_sem])
          obtain ⟨d0, d1, f0, f1, _⟩ := r1
          go_wp2
          exact bodyPost_ret (v := .tuple #[.agg #[.int .i64 0, .slice none 0 0], .bool false]) (by simp [results, Try.results33, go_sem, d0, d1]) rfl ⟨_, rfl, OwnSS.nil _ _ _ _ _, (bw1.setCell (by first | (simp; done) | (simp; omega)) _).setCell (by first | (simp; done) | (simp; omega)) _⟩
        · have e3 : decide (at_ > m) = false := decide_eq_false h3
          have hq0 : IntKind.i64.wrap (at_ + (N : Int)) = at_ + N := IntWalk.i64_in _ ⟨by omega, by omega⟩
          by_cases h4 : m < at_ + N
          · have e4 : decide (m < at_ + N) = true := decide_eq_true h4
            have hNP : ¬ PlP N rows at_ m := fun h => by have := h.2; omega
            rw [nbN_no hNP, nbR_no hNP, tf_no hNP]
            clear hNP HN
            go_enter Try.func33, Try.ntmps33
            go_wp2_with fail
            refine (implNetworkOk _ _ rows _ (hk.out _ ((((Below.refl _ _).alloc (Nat.le_refl _) _).alloc (by simp) _).alloc (by simp; omega) _))).mono ?_; rintro e w1 ⟨rfl, b1⟩
            have r1 := (ResC.start ((w.alloc (.cells #[.int .i64 N, .slice ao rows.length cap] 26)).alloc (.cells #[.int .i64 at_] 3)) 26).below b1 (by simp)
            rw [World.size_alloc, World.size_alloc] at r1
            have cx : w1.cell? ⟨w.heap.size, 0, none⟩ = some (.int .i64 N) := (b1.cell (by simp; omega)).trans (by simp [go_sem])
            have cy : w1.cell? ⟨w.heap.size, 1, none⟩ = some (.slice ao rows.length cap) := (b1.cell (by simp; omega)).trans (by simp [go_sem])
            have bw1 : Below w.heap.size w w1 := ((((Below.refl _ _).alloc (Nat.le_refl _) _).alloc (by simp) _).alloc (by simp; omega) _).trans (b1.mono (by simp; omega))
            have s1 : w.heap.size + 3 ≤ w1.heap.size := by have := b1.size; simpa using this
            have y1 : w.heap.size < w1.heap.size := by omega
            have y2 : w.heap.size + 1 < w1.heap.size := by omega
            have ca : w1.cell? ⟨w.heap.size + 1, 0, none⟩ = some (.int .i64 at_) := (b1.cell (by simp)).trans (by simp [go_sem])
            obtain ⟨d0, d1, f0, f1, _⟩ := r1
            go_wp2
            exact bodyPost_ret (v := .tuple #[.agg #[.int .i64 0, .slice none 0 0], .bool false]) (by simp [results, Try.results33, go_sem, d0, d1]) rfl ⟨_, rfl, OwnSS.nil _ _ _ _ _, (bw1.setCell (by first | (simp; done) | (simp; omega)) _).setCell (by first | (simp; done) | (simp; omega)) _⟩
          · have e4 : decide (m < at_ + N) = false := decide_eq_false h4
            have hP : PlP N rows at_ m := ⟨HN.out, by omega⟩
            rw [nbN_yes hP, nbR_yes hP, tf_yes hP]
            clear hP
            clear HN
            go_enter Try.func33, Try.ntmps33
            go_wp2_with fail
            refine (implNetworkOk _ _ rows _ (hk.out _ ((((Below.refl _ _).alloc (Nat.le_refl _) _).alloc (by simp) _).alloc (by simp; omega) _))).mono ?_; rintro e w1 ⟨rfl, b1⟩
            have r1 := (ResC.start ((w.alloc (.cells #[.int .i64 N, .slice ao rows.length cap] 26)).alloc (.cells #[.int .i64 at_] 3)) 26).below b1 (by simp)
            rw [World.size_alloc, World.size_alloc] at r1
            have cx : w1.cell? ⟨w.heap.size, 0, none⟩ = some (.int .i64 N) := (b1.cell (by simp; omega)).trans (by simp [go_sem])
            have cy : w1.cell? ⟨w.heap.size, 1, none⟩ = some (.slice ao rows.length cap) := (b1.cell (by simp; omega)).trans (by simp [go_sem])
            have bw1 : Below w.heap.size w w1 := ((((Below.refl _ _).alloc (Nat.le_refl _) _).alloc (by simp) _).alloc (by simp; omega) _).trans (b1.mono (by simp; omega))
            have s1 : w.heap.size + 3 ≤ w1.heap.size := by have := b1.size; simpa using this
            have y1 : w.heap.size < w1.heap.size := by omega
            have y2 : w.heap.size + 1 < w1.heap.size := by omega
            have ca : w1.cell? ⟨w.heap.size + 1, 0, none⟩ = some (.int .i64 at_) := (b1.cell (by simp)).trans (by simp [go_sem])
            have hI1 : IntSS w1 (.slice ao rows.length cap) (rowsOf (pairsOf rows)) := by rw [← HR.out]; exact hk.out _ bw1
            go_wp2_with fail
            refine (renamedP N m _ (pairsOf rows) (.pointer (some ⟨w.heap.size + 1, 0, none⟩)) (fun i => (i : Int) + at_) w1 hI1 HP.out (fun W i hW hi => placeC _ at_ i W (Below.keeps hW _ _ ca) (by omega) (by omega)) (fun i hi => WalkArith.wf_i64 (by omega))).mono ?_; rintro e w2 ⟨u2, rfl, R2, b2⟩
            have R2 : OwnSS tInt tInts w2 w1.heap.size w2.heap.size u2 (plL rows at_) := R2
            obtain ⟨a3, l3, c3, hu3⟩ := R2.shape
            subst hu3
            obtain ⟨d0, d1, f0, f1, _⟩ := r1.below b2 (by omega)
            have bw3 := bw1.trans (b2.mono (by omega))
            obtain ⟨RR, BB⟩ := R2.res (R := w.heap.size + 1 + 1) (x := .int .i64 m) (y := .slice a3 l3 c3) (by omega) bw3 (by omega)
            clear R2
            go_wp2
            exact bodyPost_ret (v := .tuple #[.agg #[.int .i64 m, .slice a3 l3 c3], .bool true]) (by simp [results, Try.results33, go_sem, d0, d1]) rfl ⟨_, rfl, RR, BB⟩
  · have ht := tf_no hN
    have hNP : ¬ (PlP n rows at_ m) := fun h => hN (And.left h)
    rw [nbN_no hNP, nbR_no hNP, tf_no hNP]
    clear hNP
    subst hv
    clear hN
    go_enter Try.func33, Try.ntmps33
    go_wp2_with fail
    refine (implNetworkOk _ _ rows _ (hk.out _ ((((Below.refl _ _).alloc (Nat.le_refl _) _).alloc (by simp) _).alloc (by simp; omega) _))).mono ?_; rintro e w1 ⟨rfl, b1⟩
    have r1 := (ResC.start ((w.alloc (.cells #[.int .i64 n, .slice ao rows.length cap] 26)).alloc (.cells #[.int .i64 at_] 3)) 26).below b1 (by simp)
    rw [World.size_alloc, World.size_alloc] at r1
    have cx : w1.cell? ⟨w.heap.size, 0, none⟩ = some (.int .i64 n) := (b1.cell (by simp; omega)).trans (by simp [go_sem])
    have cy : w1.cell? ⟨w.heap.size, 1, none⟩ = some (.slice ao rows.length cap) := (b1.cell (by simp; omega)).trans (by simp [go_sem])
    have bw1 : Below w.heap.size w w1 := ((((Below.refl _ _).alloc (Nat.le_refl _) _).alloc (by simp) _).alloc (by simp; omega) _).trans (b1.mono (by simp; omega))
    have s1 : w.heap.size + 3 ≤ w1.heap.size := by have := b1.size; simpa using this
    have y1 : w.heap.size < w1.heap.size := by omega
    have y2 : w.heap.size + 1 < w1.heap.size := by omega
    have ca : w1.cell? ⟨w.heap.size + 1, 0, none⟩ = some (.int .i64 at_) := (b1.cell (by simp)).trans (by simp [go_sem])
    obtain ⟨d0, d1, f0, f1, _⟩ := r1
    go_wp2
    exact bodyPost_ret (v := .tuple #[.agg #[.int .i64 0, .slice none 0 0], .bool false]) (by simp [results, Try.results33, go_sem, d0, d1]) rfl ⟨_, rfl, OwnSS.nil _ _ _ _ _, (bw1.setCell (by first | (simp; done) | (simp; omega)) _).setCell (by first | (simp; done) | (simp; omega)) _⟩

end Go.Proofs.Ytelilimkcboioaa
