/- Contracts: DropPair, the program's and the reference's. -/
import Derived.Test.YtelilimkcboioaaNb
import Derived.Test.YtelilimkcboioaaOwn
import Derived.Test.YtelilimkcboioaaRowOps
import Derived.Test.YtelilimkcboioaaDrop
namespace Go.Proofs.Ytelilimkcboioaa
open Go.RowKit
set_option linter.unusedVariables false

def DropP (n : Int) (rows : List (List Int)) (j : Int) : Prop := NetP n rows ∧ 0 ≤ j ∧ j < rows.length
theorem drop_le (n : Int) (rows : List (List Int)) (j : Int) : sumLen (nbR (DropP n rows j) (rows.eraseIdx j.toNat)) ≤ 120 := nbR_le fun h => by
  have h1 := sumLen_le2 (rows.eraseIdx j.toNat) fun r hr => h.1.two r (List.mem_of_mem_eraseIdx hr)
  have h2 := h.1.2.1
  have h3 := List.length_eraseIdx_le rows j.toNat
  omega
theorem dropTo_erase (rows : List (List Int)) (j k : Nat) (hk : k ≤ rows.length) : dropTo rows (j : Int) k = (rows.take k).eraseIdx j := by
  induction k with
  | zero => simp [dropTo]
  | succ k ih =>
    have h := ih (by omega)
    have hl : (rows.take k).length = k := by rw [List.length_take]; omega
    have hr : rows.getD k [] = rows[k] := by rw [List.getD_eq_getElem?_getD, List.getElem?_eq_getElem (by omega)]; rfl
    rw [take_next rows k (by omega)]
    by_cases e : (k : Int) = (j : Int)
    · have e2 : k = j := by omega
      rw [dropTo_yes e, h, List.eraseIdx_append_of_length_le (by omega), List.eraseIdx_of_length_le (by omega), hl, show j - k = 0 by omega]; simp
    · rw [dropTo_no e, h, hr]
      rcases Nat.lt_or_ge j k with hj | hj
      · rw [List.eraseIdx_append_of_lt_length (by omega)]
      · rw [List.eraseIdx_append_of_length_le (by omega), List.eraseIdx_of_length_le (by omega)]
        rw [List.eraseIdx_of_length_le (by simp; omega)]

set_option maxHeartbeats 1600000 in
set_option maxRecDepth 100000 in
theorem specDropPair (n : Int) (v : Value) (rows : List (List Int)) (j : Int) (w : World) (hn : (Lit.int .i64 n).wf = true) (h : IntSS w v rows) (hl : rows.length + sumLen rows ≤ 1048576) (hj : (Lit.int .i64 j).wf = true) :
    Calls Try.prog 19 #[.agg #[.int .i64 n, v], .int .i64 j] w (GivesNB w (nbN (DropP n rows j) n) (nbR (DropP n rows j) (rows.eraseIdx j.toNat)) (tf (DropP n rows j))) := by
  have hk : Hid (∀ W, Below w.heap.size w W → IntSS W v rows) := fun W hb => h.keep (Below.keeps hb)
  obtain ⟨ao, cap, hv, hcap, hmax, _⟩ := h
  unfold maxLen at hmax
  clear hn hl
  rcases Classical.em (NetP n rows) with hN | hN
  · have ht := tf_yes hN
    have h60 := hN.2.1
    have hN0 := hN
    obtain ⟨N, rfl, hr, hp⟩ := hN.pairs
    have HN := Lib.hid hN0
    have HP := Lib.hid hp
    have HR := Lib.hid hr
    have hN8 := hp.2.1
    have hpl : (pairsOf rows).length = rows.length := by rw [pairsOf, List.length_map]
    have HL := Lib.hid hpl
    subst hv
    clear hN hN0 hp hr hpl
    by_cases hj : 0 ≤ j ∧ j < rows.length
    · obtain ⟨jn, rfl⟩ : ∃ jn : Nat, j = (jn : Int) := ⟨j.toNat, by omega⟩
      have hP : DropP N rows jn := ⟨HN.out, hj⟩
      rw [Int.toNat_natCast]
      rw [nbN_yes hP, nbR_yes hP, tf_yes hP]
      clear hP HN
      have hin : tf (InP 0 jn ((rows.length : Int) - 1)) = true := tf_yes (by unfold InP; omega)
      go_enter Try.func19, Try.ntmps19
      go_wp2_with fail
      refine (specNetworkOk _ _ rows _ (hk.out _ (((Below.refl _ _).alloc (Nat.le_refl _) _).alloc (by simp) _))).mono ?_; rintro e w1 ⟨rfl, b1⟩
      have r1 := (ResC.start (w.alloc (.cells #[.int .i64 N, .slice ao rows.length cap] 26)) 26).below b1 (by simp)
      rw [World.size_alloc] at r1
      have cx : w1.cell? ⟨w.heap.size, 0, none⟩ = some (.int .i64 N) := (b1.cell (by simp; omega)).trans (by simp [go_sem])
      have cy : w1.cell? ⟨w.heap.size, 1, none⟩ = some (.slice ao rows.length cap) := (b1.cell (by simp; omega)).trans (by simp [go_sem])
      have bw1 : Below w.heap.size w w1 := (((Below.refl _ _).alloc (Nat.le_refl _) _).alloc (by simp) _).trans (b1.mono (by simp; omega))
      have s1 : w.heap.size + 2 ≤ w1.heap.size := by have := b1.size; simpa using this
      have y1 : w.heap.size < w1.heap.size := by omega
      have y2 : w.heap.size + 1 < w1.heap.size := by omega
      go_wp2_with fail
      refine (specIn' jn 0 ((rows.length : Int) - 1) w1).mono ?_; rintro e w2 ⟨rfl, b2⟩
      rw [hin]
      have s2 := b2.size
      have cx2 := Below.keeps b2 _ _ cx
      have cy2 := Below.keeps b2 _ _ cy
      have bw2 := bw1.trans (b2.mono (by omega))
      have r2 := r1.below b2 (by omega)
      go_wp2_with fail
      refine (l06Drop N _ (pairsOf rows) jn w2 (by rw [← HR.out]; exact hk.out _ bw2) HP.out).mono ?_; rintro e w3 ⟨u3, rfl, R3, b3⟩
      have s3 := b3.size
      have HE : Hid (dropTo (rowsOf (pairsOf rows)) (jn : Int) (pairsOf rows).length = rows.eraseIdx jn) := by
        show _ = _
        rw [HL.out, ← HR.out, dropTo_erase rows jn rows.length (Nat.le_refl _), List.take_of_length_le (Nat.le_refl _)]
      rw [HE.out] at R3
      obtain ⟨a3, l3, c3, hu3⟩ := R3.shape
      subst hu3
      obtain ⟨d0, d1, f0, f1, _⟩ := r2.below b3 (by omega)
      have bw3 := bw2.trans (b3.mono (by omega))
      obtain ⟨RR, BB⟩ := R3.res (R := w.heap.size + 1) (x := .int .i64 N) (y := .slice a3 l3 c3) (by omega) bw3 (by omega)
      clear R3
      go_wp2
      exact bodyPost_ret (v := .tuple #[.agg #[.int .i64 N, .slice a3 l3 c3], .bool true]) (by simp [results, Try.results19, go_sem, d0, d1]) rfl ⟨_, rfl, RR, BB⟩
    · clear HN
      have hNP : ¬ DropP N rows j := fun h => by have := h.2; omega
      rw [nbN_no hNP, nbR_no hNP, tf_no hNP]
      clear hNP
      have hin : tf (InP 0 j ((rows.length : Int) - 1)) = false := tf_no (by unfold InP; omega)
      clear hj
      go_enter Try.func19, Try.ntmps19
      go_wp2_with fail
      refine (specNetworkOk _ _ rows _ (hk.out _ (((Below.refl _ _).alloc (Nat.le_refl _) _).alloc (by simp) _))).mono ?_; rintro e w1 ⟨rfl, b1⟩
      have r1 := (ResC.start (w.alloc (.cells #[.int .i64 N, .slice ao rows.length cap] 26)) 26).below b1 (by simp)
      rw [World.size_alloc] at r1
      have cx : w1.cell? ⟨w.heap.size, 0, none⟩ = some (.int .i64 N) := (b1.cell (by simp; omega)).trans (by simp [go_sem])
      have cy : w1.cell? ⟨w.heap.size, 1, none⟩ = some (.slice ao rows.length cap) := (b1.cell (by simp; omega)).trans (by simp [go_sem])
      have bw1 : Below w.heap.size w w1 := (((Below.refl _ _).alloc (Nat.le_refl _) _).alloc (by simp) _).trans (b1.mono (by simp; omega))
      have s1 : w.heap.size + 2 ≤ w1.heap.size := by have := b1.size; simpa using this
      have y1 : w.heap.size < w1.heap.size := by omega
      have y2 : w.heap.size + 1 < w1.heap.size := by omega
      go_wp2_with fail
      refine (specIn' j 0 ((rows.length : Int) - 1) w1).mono ?_; rintro e w2 ⟨rfl, b2⟩
      rw [hin]
      have b12 := b1.trans (b2.mono (by have := b1.size; omega))
      obtain ⟨d0, d1, f0, f1, _⟩ := (ResC.start (w.alloc (.cells #[.int .i64 N, .slice ao rows.length cap] 26)) 26).below b12 (by simp)
      rw [World.size_alloc] at d0 d1 f0 f1
      have bw : Below w.heap.size w w2 := (((Below.refl _ _).alloc (Nat.le_refl _) _).alloc (by simp) _).trans (b12.mono (by simp; omega))
      go_wp2
      exact bodyPost_ret (v := .tuple #[.agg #[.int .i64 0, .slice none 0 0], .bool false]) (by simp [results, Try.results19, go_sem, d0, d1]) rfl ⟨_, rfl, OwnSS.nil _ _ _ _ _, (bw.setCell (by simp) _).setCell (by simp) _⟩
  · have ht := tf_no hN
    have hNP : ¬ (DropP n rows j) := fun h => hN (And.left h)
    rw [nbN_no hNP, nbR_no hNP, tf_no hNP]
    clear hNP
    subst hv
    clear hN
    go_enter Try.func19, Try.ntmps19
    go_wp2_with fail
    refine (specNetworkOk _ _ rows _ (hk.out _ (((Below.refl _ _).alloc (Nat.le_refl _) _).alloc (by simp) _))).mono ?_; rintro e w1 ⟨rfl, b1⟩
    obtain ⟨d0, d1, f0, f1, _⟩ := (ResC.start (w.alloc (.cells #[.int .i64 n, .slice ao rows.length cap] 26)) 26).below b1 (by simp)
    rw [World.size_alloc] at d0 d1 f0 f1
    have bw : Below w.heap.size w w1 := (((Below.refl _ _).alloc (Nat.le_refl _) _).alloc (by simp) _).trans (b1.mono (by simp; omega))
    go_wp2
    exact bodyPost_ret (v := .tuple #[.agg #[.int .i64 0, .slice none 0 0], .bool false]) (by simp [results, Try.results19, go_sem, d0, d1]) rfl ⟨_, rfl, OwnSS.nil _ _ _ _ _, (bw.setCell (by simp) _).setCell (by simp) _⟩

set_option maxHeartbeats 1600000 in
set_option maxRecDepth 100000 in
theorem implDropPair (n : Int) (v : Value) (rows : List (List Int)) (j : Int) (w : World) (hn : (Lit.int .i64 n).wf = true) (h : IntSS w v rows) (hl : rows.length + sumLen rows ≤ 1048576) (hj : (Lit.int .i64 j).wf = true) :
    Calls Try.prog 20 #[.agg #[.int .i64 n, v], .int .i64 j] w (GivesNB w (nbN (DropP n rows j) n) (nbR (DropP n rows j) (rows.eraseIdx j.toNat)) (tf (DropP n rows j))) := by
  have hk : Hid (∀ W, Below w.heap.size w W → IntSS W v rows) := fun W hb => h.keep (Below.keeps hb)
  obtain ⟨ao, cap, hv, hcap, hmax, _⟩ := h
  unfold maxLen at hmax
  clear hn hl
  rcases Classical.em (NetP n rows) with hN | hN
  · have ht := tf_yes hN
    have h60 := hN.2.1
    have hN0 := hN
    obtain ⟨N, rfl, hr, hp⟩ := hN.pairs
    have HN := Lib.hid hN0
    have HP := Lib.hid hp
    have HR := Lib.hid hr
    have hN8 := hp.2.1
    have hpl : (pairsOf rows).length = rows.length := by rw [pairsOf, List.length_map]
    have HL := Lib.hid hpl
    subst hv
    clear hN hN0 hp hr hpl
    by_cases hj0 : 0 ≤ j
    · have hb0 : decide (j < 0) = false := decide_eq_false (by omega)
      by_cases hj1 : j < rows.length
      · have hb1 : decide (j ≥ (rows.length : Int)) = false := decide_eq_false (by omega)
        have hP : DropP N rows j := ⟨HN.out, hj0, hj1⟩
        rw [nbN_yes hP, nbR_yes hP, tf_yes hP]
        clear hP HN
        obtain ⟨jn, rfl⟩ : ∃ jn : Nat, j = (jn : Int) := ⟨j.toNat, by omega⟩
        have hjn : jn < rows.length := by omega
        rw [Int.toNat_natCast]
        go_enter Try.func20, Try.ntmps20
        go_wp2_with fail
        refine (implNetworkOk _ _ rows _ (hk.out _ (((Below.refl _ _).alloc (Nat.le_refl _) _).alloc (by simp) _))).mono ?_; rintro e w1 ⟨rfl, b1⟩
        have r1 := (ResC.start (w.alloc (.cells #[.int .i64 N, .slice ao rows.length cap] 26)) 26).below b1 (by simp)
        rw [World.size_alloc] at r1
        have cx : w1.cell? ⟨w.heap.size, 0, none⟩ = some (.int .i64 N) := (b1.cell (by simp; omega)).trans (by simp [go_sem])
        have cy : w1.cell? ⟨w.heap.size, 1, none⟩ = some (.slice ao rows.length cap) := (b1.cell (by simp; omega)).trans (by simp [go_sem])
        have bw1 : Below w.heap.size w w1 := (((Below.refl _ _).alloc (Nat.le_refl _) _).alloc (by simp) _).trans (b1.mono (by simp; omega))
        have s1 : w.heap.size + 2 ≤ w1.heap.size := by have := b1.size; simpa using this
        have y1 : w.heap.size < w1.heap.size := by omega
        have y2 : w.heap.size + 1 < w1.heap.size := by omega
        go_wp2_with fail
        refine (ownN N _ (pairsOf rows) _ (by rw [← HR.out]; exact hk.out _ bw1) HP.out).mono ?_; rintro e w2 ⟨u2, rfl, R2, b2⟩
        rw [← HR.out] at R2
        obtain ⟨a2, l2, c2, hu2⟩ := R2.shape
        subst hu2
        have s2 := b2.size
        go_wp2_with fail
        obtain ⟨w2b, HW⟩ : ∃ W, Hid (W = w2.alloc (.cells #[.int .i64 N, .slice a2 l2 c2] 26)) := ⟨_, rfl⟩
        rw [← HW.out]
        have b2b : Below w2.heap.size w2 w2b := by rw [HW.out]; exact (Below.refl _ _).alloc (Nat.le_refl _) _
        have k0 : w2b.cell? ⟨w2.heap.size, 0, none⟩ = some (.int .i64 N) := by rw [HW.out]; simp [go_sem]
        have k1 : w2b.cell? ⟨w2.heap.size, 1, none⟩ = some (.slice a2 l2 c2) := by rw [HW.out]; simp [go_sem]
        have k2 : w2b.frozen? ⟨w2.heap.size, 1, none⟩ = false := by rw [HW.out]; simp [go_sem]
        have z2 : w2.heap.size < w2b.heap.size := by rw [HW.out]; simp
        clear HW
        refine (delRows _ _ _ _ jn _ (R2.below b2b (Nat.le_refl _)) hjn).mono ?_; rintro e w3 ⟨u3, rfl, R3, c3⟩
        obtain ⟨a3, l3, cc3, hu3⟩ := R3.shape
        subst hu3
        have k0 := chg_cell c3 (.inr (Nat.le_refl _)) k0
        have k1 := chg_cell c3 (.inr (Nat.le_refl _)) k1
        have k2 : w3.frozen? ⟨w2.heap.size, 1, none⟩ = false := (World.frozen?_of_block (a := ⟨w2.heap.size, 1, none⟩) (c3.block _ z2 (.inr (Nat.le_refl _)))).trans k2
        have s3 := c3.size
        have b3 : Below w1.heap.size w1 w3 := (b2.trans (b2b.mono s2)).trans (c3.below (by omega) (Nat.le_refl _))
        obtain ⟨d0, d1, f0, f1, _⟩ := r1.below b3 (by omega)
        have bw : Below w.heap.size w w3 := bw1.trans (b3.mono (by omega))
        obtain ⟨w4, HW⟩ : ∃ W, Hid (W = w3.setCell ⟨w2.heap.size, 1, none⟩ (.slice a3 l3 cc3)) := ⟨_, rfl⟩
        have R4 : OwnSS tInt tInts w4 w1.heap.size w4.heap.size (.slice a3 l3 cc3) (rows.eraseIdx jn) := by
          rw [HW.out, size_setCell]
          exact (R3.chg (chg_setCell w3 w2.heap.size 1 _) (.inl (Nat.le_refl _))).wide (Nat.le_refl _) (by omega)
        have bw4 : Below w.heap.size w w4 := by rw [HW.out]; exact bw.setCell (by show w.heap.size ≤ w2.heap.size; omega) _
        have e0 : w4.cell? ⟨w2.heap.size, 0, none⟩ = some (.int .i64 N) := by rw [HW.out, World.cell?_setCell_other _ _ _ _ (by simp)]; exact k0
        have e1 : w4.cell? ⟨w2.heap.size, 1, none⟩ = some (.slice a3 l3 cc3) := by rw [HW.out]; exact World.cell?_setCell_same _ _ _ k1
        have g0 : w4.cell? ⟨w.heap.size + 1, 0, none⟩ = some (.int .i64 0) := by rw [HW.out, World.cell?_setCell_other _ _ _ _ (by simp)]; exact d0
        have g1 : w4.cell? ⟨w.heap.size + 1, 1, none⟩ = some (.slice none 0 0) := by rw [HW.out, World.cell?_setCell_other _ _ _ _ (by first | (simp; done) | (simp; omega))]; exact d1
        have g2 : w4.frozen? ⟨w.heap.size + 1, 0, none⟩ = false := by rw [HW.out, World.frozen?_setCell]; exact f0
        have g3 : w4.frozen? ⟨w.heap.size + 1, 1, none⟩ = false := by rw [HW.out, World.frozen?_setCell]; exact f1
        obtain ⟨RR, BB⟩ := R4.res (R := w.heap.size + 1) (x := .int .i64 N) (y := .slice a3 l3 cc3) (by omega) bw4 (by omega)
        go_wp2_with fail
        rw [← HW.out]
        go_wp2
        exact bodyPost_ret (v := .tuple #[.agg #[.int .i64 N, .slice a3 l3 cc3], .bool true]) (by simp [results, Try.results20, go_sem, g0, g1]) rfl ⟨_, rfl, RR, BB⟩
      · have hb1 : decide (j ≥ (rows.length : Int)) = true := decide_eq_true (by omega)
        clear HN
        have hNP : ¬ DropP N rows j := fun h => by have := h.2; omega
        rw [nbN_no hNP, nbR_no hNP, tf_no hNP]
        clear hNP
        clear hj1
        go_enter Try.func20, Try.ntmps20
        go_wp2_with fail
        refine (implNetworkOk _ _ rows _ (hk.out _ (((Below.refl _ _).alloc (Nat.le_refl _) _).alloc (by simp) _))).mono ?_; rintro e w1 ⟨rfl, b1⟩
        have r1 := (ResC.start (w.alloc (.cells #[.int .i64 N, .slice ao rows.length cap] 26)) 26).below b1 (by simp)
        rw [World.size_alloc] at r1
        have cx : w1.cell? ⟨w.heap.size, 0, none⟩ = some (.int .i64 N) := (b1.cell (by simp; omega)).trans (by simp [go_sem])
        have cy : w1.cell? ⟨w.heap.size, 1, none⟩ = some (.slice ao rows.length cap) := (b1.cell (by simp; omega)).trans (by simp [go_sem])
        have bw1 : Below w.heap.size w w1 := (((Below.refl _ _).alloc (Nat.le_refl _) _).alloc (by simp) _).trans (b1.mono (by simp; omega))
        have s1 : w.heap.size + 2 ≤ w1.heap.size := by have := b1.size; simpa using this
        have y1 : w.heap.size < w1.heap.size := by omega
        have y2 : w.heap.size + 1 < w1.heap.size := by omega
        obtain ⟨d0, d1, f0, f1, _⟩ := (ResC.start (w.alloc (.cells #[.int .i64 N, .slice ao rows.length cap] 26)) 26).below b1 (by simp)
        rw [World.size_alloc] at d0 d1 f0 f1
        have bw : Below w.heap.size w w1 := (((Below.refl _ _).alloc (Nat.le_refl _) _).alloc (by simp) _).trans (b1.mono (by simp; omega))
        go_wp2
        exact bodyPost_ret (v := .tuple #[.agg #[.int .i64 0, .slice none 0 0], .bool false]) (by simp [results, Try.results20, go_sem, d0, d1]) rfl ⟨_, rfl, OwnSS.nil _ _ _ _ _, (bw.setCell (by simp) _).setCell (by simp) _⟩
    · have hb0 : decide (j < 0) = true := decide_eq_true (by omega)
      clear HN
      have hNP : ¬ DropP N rows j := fun h => by have := h.2; omega
      rw [nbN_no hNP, nbR_no hNP, tf_no hNP]
      clear hNP
      clear hj0
      go_enter Try.func20, Try.ntmps20
      go_wp2_with fail
      refine (implNetworkOk _ _ rows _ (hk.out _ (((Below.refl _ _).alloc (Nat.le_refl _) _).alloc (by simp) _))).mono ?_; rintro e w1 ⟨rfl, b1⟩
      have r1 := (ResC.start (w.alloc (.cells #[.int .i64 N, .slice ao rows.length cap] 26)) 26).below b1 (by simp)
      rw [World.size_alloc] at r1
      have cx : w1.cell? ⟨w.heap.size, 0, none⟩ = some (.int .i64 N) := (b1.cell (by simp; omega)).trans (by simp [go_sem])
      have cy : w1.cell? ⟨w.heap.size, 1, none⟩ = some (.slice ao rows.length cap) := (b1.cell (by simp; omega)).trans (by simp [go_sem])
      have bw1 : Below w.heap.size w w1 := (((Below.refl _ _).alloc (Nat.le_refl _) _).alloc (by simp) _).trans (b1.mono (by simp; omega))
      have s1 : w.heap.size + 2 ≤ w1.heap.size := by have := b1.size; simpa using this
      have y1 : w.heap.size < w1.heap.size := by omega
      have y2 : w.heap.size + 1 < w1.heap.size := by omega
      obtain ⟨d0, d1, f0, f1, _⟩ := (ResC.start (w.alloc (.cells #[.int .i64 N, .slice ao rows.length cap] 26)) 26).below b1 (by simp)
      rw [World.size_alloc] at d0 d1 f0 f1
      have bw : Below w.heap.size w w1 := (((Below.refl _ _).alloc (Nat.le_refl _) _).alloc (by simp) _).trans (b1.mono (by simp; omega))
      go_wp2
      exact bodyPost_ret (v := .tuple #[.agg #[.int .i64 0, .slice none 0 0], .bool false]) (by simp [results, Try.results20, go_sem, d0, d1]) rfl ⟨_, rfl, OwnSS.nil _ _ _ _ _, (bw.setCell (by simp) _).setCell (by simp) _⟩
  · have ht := tf_no hN
    have hNP : ¬ (DropP n rows j) := fun h => hN (And.left h)
    rw [nbN_no hNP, nbR_no hNP, tf_no hNP]
    clear hNP
    subst hv
    clear hN
    go_enter Try.func20, Try.ntmps20
    go_wp2_with fail
    refine (implNetworkOk _ _ rows _ (hk.out _ (((Below.refl _ _).alloc (Nat.le_refl _) _).alloc (by simp) _))).mono ?_; rintro e w1 ⟨rfl, b1⟩
    obtain ⟨d0, d1, f0, f1, _⟩ := (ResC.start (w.alloc (.cells #[.int .i64 n, .slice ao rows.length cap] 26)) 26).below b1 (by simp)
    rw [World.size_alloc] at d0 d1 f0 f1
    have bw : Below w.heap.size w w1 := (((Below.refl _ _).alloc (Nat.le_refl _) _).alloc (by simp) _).trans (b1.mono (by simp; omega))
    go_wp2
    exact bodyPost_ret (v := .tuple #[.agg #[.int .i64 0, .slice none 0 0], .bool false]) (by simp [results, Try.results20, go_sem, d0, d1]) rfl ⟨_, rfl, OwnSS.nil _ _ _ _ _, (bw.setCell (by simp) _).setCell (by simp) _⟩

end Go.Proofs.Ytelilimkcboioaa
