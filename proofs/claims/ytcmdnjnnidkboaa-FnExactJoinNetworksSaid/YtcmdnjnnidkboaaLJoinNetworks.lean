/- The statement FnExactJoinNetworks: the law returns true for every input, and every input reads behind the call as it read before. No condition. -/
import Derived.Test.YtcmdnjnnidkboaaRows
import Derived.Test.YtcmdnjnnidkboaaJoin3
import Derived.Test.YtcmdnjnnidkboaaNetB
import Derived.Test.YtcmdnjnnidkboaaMark
import Derived.Test.YtcmdnjnnidkboaaOpenNet
namespace Go.Proofs.Ytcmdnjnnidkboaa.fnExactJoinNetworks
open Go.ChangeShapes Go.WideShapes Go.ChangeAt Go.RowKit Go.Proofs.Ytcmdnjnnidkboaa
open Go.ChangeMaps (open_string shut_string)
set_option linter.unusedVariables false

set_option maxHeartbeats 40000000 in
set_option maxRecDepth 100000 in
theorem law (n0 : Int) (v0 : Value) (x0 : List (List Int)) (n1 : Int) (v1 : Value) (x1 : List (List Int)) (w : World) (h0 : (Lit.int .i64 n0).wf = true) (I0 : IntSS w v0 x0) (h1 : (Lit.int .i64 n1).wf = true) (I1 : IntSS w v1 x1) :
    Calls Try.prog 3 #[.agg #[.int .i64 n0, v0], .agg #[.int .i64 n1, v1]] w fun e w' => e = .returned (.bool true) ∧ Below w.heap.size w w' := by
  obtain ⟨ao0, cap0, hv0, hcap0, hmax0, hnil0, hcell0⟩ := id I0
  clear hnil0 hcell0
  unfold maxLen at hmax0
  have hw0 := Lib.hid h0; clear h0
  obtain ⟨ao1, cap1, hv1, hcap1, hmax1, hnil1, hcell1⟩ := id I1
  clear hnil1 hcell1
  unfold maxLen at hmax1
  have hw1 := Lib.hid h1; clear h1
  have hd0 := jn_le n0 x0 n1 x1
  have hb0 : (tf (JnP n0 x0 n1 x1) != tf (JnP n0 x0 n1 x1)) = false := by simp
  obtain ⟨W0, HW0⟩ : ∃ W0, Hid (W0 = ((w.alloc (.cells #[.int .i64 n0, v0] 24)).alloc (.cells #[.int .i64 n1, v1] 24))) := ⟨_, rfl⟩
  have BB : Below w.heap.size w W0 := by rw [HW0.out]; exact (((Below.refl _ _).alloc (by simp) _).alloc (by simp) _)
  have ca0 : W0.cell? ⟨w.heap.size, 0, none⟩ = some (.int .i64 n0) := by rw [HW0.out]; simp [go_sem]
  have cb0 : W0.cell? ⟨w.heap.size, 1, none⟩ = some v0 := by rw [HW0.out]; simp [go_sem]
  have ca1 : W0.cell? ⟨w.heap.size + 1, 0, none⟩ = some (.int .i64 n1) := by rw [HW0.out]; simp [go_sem]
  have cb1 : W0.cell? ⟨w.heap.size + 1, 1, none⟩ = some v1 := by rw [HW0.out]; simp [go_sem]
  have za : w.heap.size + 2 ≤ W0.heap.size := by rw [HW0.out]; simp
  have I0 := I0.keep (Below.keeps BB)
  have I1 := I1.keep (Below.keeps BB)
  subst hv0
  subst hv1
  by_cases hg0 : ((x0.length + sumLen x0 : Nat) : Int) ≤ 1048576
  · skip
    have hs0 : 0 ≤ szSS x0 1048576 ∧ szSS x0 1048576 ≤ 1048576 := by unfold szSS szI; rw [if_pos hg0]; omega
    have ht0 := hs0.1; have hu0 := hs0.2; clear hs0
    have hl0 : x0.length + sumLen x0 ≤ 1048576 := by omega
    have hq0 : decide ((szSS x0 1048576) < 0) = false := decide_eq_false (by omega)
    by_cases hg1 : ((x1.length + sumLen x1 : Nat) : Int) ≤ (szSS x0 1048576)
    · skip
      have hs1 : 0 ≤ szSS x1 (szSS x0 1048576) ∧ szSS x1 (szSS x0 1048576) ≤ 1048576 := by have hgg := hg1; generalize szSS x0 1048576 = q at *; unfold szSS szI; rw [if_pos hgg]; omega
      have ht1 := hs1.1; have hu1 := hs1.2; clear hs1
      have hl1 : x1.length + sumLen x1 ≤ 1048576 := by omega
      have hq1 : decide ((szSS x1 (szSS x0 1048576)) < 0) = false := decide_eq_false (by omega)
      go_enter Try.func3, Try.ntmps3
      have B : Below W0.heap.size W0 W0 := Below.refl _ _
      go_wp2_with fail
      rw [← HW0.out]
      refine (szNetwork n0 _ x0 1048576 _ (I0.keep (Below.keeps B)) (by omega) (by omega)).mono ?_; rintro e wz0 ⟨rfl, bz0⟩
      have ca0 := Below.keeps bz0 _ _ ca0
      have cb0 := Below.keeps bz0 _ _ cb0
      have ca1 := Below.keeps bz0 _ _ ca1
      have cb1 := Below.keeps bz0 _ _ cb1
      have swz0 := bz0.size; have B := B.trans (bz0.mono (by omega))
      go_wp2_with fail
      refine (szNetwork n1 _ x1 (szSS x0 1048576) _ (I1.keep (Below.keeps B)) (by omega) (by omega)).mono ?_; rintro e wz1 ⟨rfl, bz1⟩
      have ca0 := Below.keeps bz1 _ _ ca0
      have cb0 := Below.keeps bz1 _ _ cb0
      have ca1 := Below.keeps bz1 _ _ ca1
      have cb1 := Below.keeps bz1 _ _ cb1
      have swz1 := bz1.size; have B := B.trans (bz1.mono (by omega))
      go_wp2
      go_region_held3 (fun w' => (w'.cell? ⟨w.heap.size, 0, none⟩ = some (.int .i64 n0) ∧ w'.cell? ⟨w.heap.size, 1, none⟩ = some (.slice ao0 x0.length cap0) ∧ w'.cell? ⟨w.heap.size + 1, 0, none⟩ = some (.int .i64 n1) ∧ w'.cell? ⟨w.heap.size + 1, 1, none⟩ = some (.slice ao1 x1.length cap1)) ∧ Below wz1.heap.size wz1 w')
        ((first | exact ⟨⟨ca0, cb0, ca1, cb1⟩, (Below.refl _ _).drew⟩ | exact held4 (by assumption) (by assumption) | exact held4_st (by assumption) (by omega) (by first | (simp; done) | (simp; omega)) (by first | (simp; done) | (simp; omega)) | exact held4_sw (by assumption) (by omega) (by first | omega | (simp; done) | (simp; omega)) (by first | omega | (simp; done) | (simp; omega)) | exact held4 ((Below.refl _ _).alloc (Nat.le_refl _) _) (by assumption) | fail))
        ((first | (go_at_call 10; refine Calls.mono (by with_reducible exact toNetwork n0 _ x0 _ (I0.keep ((Below.keeps B).trans (Below.keeps (And.right (by assumption))))) hl0) ?_; rintro e w1a ⟨u1a, rfl, R1a, b1a⟩; have sz1a : wz1.heap.size ≤ w1a.heap.size := Nat.le_trans (by first | exact Nat.le_refl _ | simp) b1a.size; (first | (have kz0 : w1a.cell? ⟨wz1.heap.size, 0, none⟩ = some (.int .i64 0) := (b1a.cell (by first | (simp; done) | (simp; omega))).trans (by simp [go_sem]); have kz1 : w1a.cell? ⟨wz1.heap.size, 1, none⟩ = some (.slice none 0 0) := (b1a.cell (by first | (simp; done) | (simp; omega))).trans (by simp [go_sem]); have kf0 : w1a.frozen? ⟨wz1.heap.size, 0, none⟩ = false := (b1a.frozen (by first | (simp; done) | (simp; omega))).trans (by simp [go_sem]); have kf1 : w1a.frozen? ⟨wz1.heap.size, 1, none⟩ = false := (b1a.frozen (by first | (simp; done) | (simp; omega))).trans (by simp [go_sem]); have kzl : wz1.heap.size < w1a.heap.size := World.block_lt_of_cell? _ _ kz0) | skip)) | (go_at_call 10; refine Calls.mono (by with_reducible exact toNetwork n1 _ x1 _ (I1.keep ((Below.keeps B).trans (Below.keeps (And.right (by assumption))))) hl1) ?_; rintro e w2a ⟨u2a, rfl, R2a, b2a⟩; have sz2a : w1a.heap.size ≤ w2a.heap.size := Nat.le_trans (by first | exact Nat.le_refl _ | simp) b2a.size; (first | (have kf0 := (b2a.frozen (World.block_lt_of_cell? _ _ kz0)).trans kf0; have kf1 := (b2a.frozen (World.block_lt_of_cell? _ _ kz1)).trans kf1; have kz0 := Below.keeps b2a _ _ kz0; have kz1 := Below.keeps b2a _ _ kz1) | (have kz0 : w2a.cell? ⟨w1a.heap.size, 0, none⟩ = some (.int .i64 0) := (b2a.cell (by first | (simp; done) | (simp; omega))).trans (by simp [go_sem]); have kz1 : w2a.cell? ⟨w1a.heap.size, 1, none⟩ = some (.slice none 0 0) := (b2a.cell (by first | (simp; done) | (simp; omega))).trans (by simp [go_sem]); have kf0 : w2a.frozen? ⟨w1a.heap.size, 0, none⟩ = false := (b2a.frozen (by first | (simp; done) | (simp; omega))).trans (by simp [go_sem]); have kf1 : w2a.frozen? ⟨w1a.heap.size, 1, none⟩ = false := (b2a.frozen (by first | (simp; done) | (simp; omega))).trans (by simp [go_sem]); have kzl : w1a.heap.size < w2a.heap.size := World.block_lt_of_cell? _ _ kz0) | skip)) | (go_at_call 9; refine (specJoinNetworks n0 _ x0 n1 _ x1 _ hw0.out (by first | exact R1a.intss | exact R1a.intss.keep (Below.keeps b2a) | exact R1a.intss.keep (Below.keeps ((Below.refl _ _).alloc (Nat.le_refl _) _)) | exact R1a.intss.keep ((Below.keeps b2a).trans (Below.keeps ((Below.refl _ _).alloc (Nat.le_refl _) _))) | exact R1a.intss.keep ((Below.keeps ((Below.refl _ _).alloc (Nat.le_refl _) _)).trans (Below.keeps b2a))) hl0 hw1.out (by first | exact R2a.intss | exact R2a.intss.keep (Below.keeps ((Below.refl _ _).alloc (Nat.le_refl _) _))) hl1).mono ?_; rintro e w3 ⟨u3, rfl, R3, b3a⟩; have sz3a : w2a.heap.size ≤ w3.heap.size := Nat.le_trans (by first | exact Nat.le_refl _ | simp) b3a.size; obtain ⟨p3, l3, c3, hu3⟩ := R3.shape; subst hu3; (first | (have kf0 := (b3a.frozen (World.block_lt_of_cell? _ _ kz0)).trans kf0; have kf1 := (b3a.frozen (World.block_lt_of_cell? _ _ kz1)).trans kf1; have kz0 := Below.keeps b3a _ _ kz0; have kz1 := Below.keeps b3a _ _ kz1) | (have kz0 : w3.cell? ⟨w2a.heap.size, 0, none⟩ = some (.int .i64 0) := (b3a.cell (by first | (simp; done) | (simp; omega))).trans (by simp [go_sem]); have kz1 : w3.cell? ⟨w2a.heap.size, 1, none⟩ = some (.slice none 0 0) := (b3a.cell (by first | (simp; done) | (simp; omega))).trans (by simp [go_sem]); have kf0 : w3.frozen? ⟨w2a.heap.size, 0, none⟩ = false := (b3a.frozen (by first | (simp; done) | (simp; omega))).trans (by simp [go_sem]); have kf1 : w3.frozen? ⟨w2a.heap.size, 1, none⟩ = false := (b3a.frozen (by first | (simp; done) | (simp; omega))).trans (by simp [go_sem]); have kzl : w2a.heap.size < w3.heap.size := World.block_lt_of_cell? _ _ kz0) | skip))))
      all_goals
        rename_i hH
        obtain ⟨⟨ca0, cb0, ca1, cb1⟩, bS⟩ := hH
        (first | (obtain ⟨w4, Hw4⟩ : ∃ W, Hid (W = w3.alloc (.cells #[.int .i64 (nbN (JnP n0 x0 n1 x1) (n0)), (.slice p3 l3 c3)] 26)) := ⟨_, rfl⟩; rw [← Hw4.out] at ca0 cb0 ca1 cb1 bS ⊢; have cx4 : w4.cell? ⟨w3.heap.size, 0, none⟩ = some (.int .i64 (nbN (JnP n0 x0 n1 x1) (n0))) := (by rw [Hw4.out]; simp [go_sem]); have cy4 : w4.cell? ⟨w3.heap.size, 1, none⟩ = some (.slice p3 l3 c3) := (by rw [Hw4.out]; simp [go_sem]); have z4 : w3.heap.size < w4.heap.size := (by rw [Hw4.out]; simp); have R3 := (R3.below (show Below w3.heap.size w3 w4 from (by rw [Hw4.out]; exact ((Below.refl _ _).alloc (Nat.le_refl _) _))) (Nat.le_refl _)).wide (Nat.le_refl _) (Nat.le_of_lt z4); have hzBa : w.heap.size + 1 < w3.heap.size := (by omega); have hzCa : wz1.heap.size ≤ w3.heap.size := (by omega); clear Hw4; generalize w3.heap.size = Ba at cx4 cy4 z4 hzBa hzCa ⊢) | (obtain ⟨w4, Hw4⟩ : ∃ W, Hid (W = (w3.setCell ⟨wz1.heap.size, 0, none⟩ (.int .i64 (nbN (JnP n0 x0 n1 x1) (n0)))).setCell ⟨wz1.heap.size, 1, none⟩ (.slice p3 l3 c3)) := ⟨_, rfl⟩; rw [← Hw4.out] at ca0 cb0 ca1 cb1 bS ⊢; have cx4 : w4.cell? ⟨wz1.heap.size, 0, none⟩ = some (.int .i64 (nbN (JnP n0 x0 n1 x1) (n0))) := (by rw [Hw4.out, World.cell?_setCell_other _ _ _ _ (by simp)]; exact World.cell?_setCell_same _ _ _ kz0); have cy4 : w4.cell? ⟨wz1.heap.size, 1, none⟩ = some (.slice p3 l3 c3) := (by rw [Hw4.out]; exact World.cell?_setCell_same _ _ _ (u := .slice none 0 0) (by rw [World.cell?_setCell_other _ _ _ _ (by simp)]; exact kz1)); have z4 : wz1.heap.size < w4.heap.size := (by rw [Hw4.out, size_setCell, size_setCell]; exact World.block_lt_of_cell? _ _ kz0); have R3 : OwnSS tInt tInts w4 _ w4.heap.size (.slice p3 l3 c3) _ := (by rw [Hw4.out, size_setCell, size_setCell]; exact (R3.set (by first | omega | (simp; done) | (simp; omega)) _).set (by first | omega | (simp; done) | (simp; omega)) _); have hzBa : w.heap.size + 1 < wz1.heap.size := (by omega); have hzCa : wz1.heap.size ≤ wz1.heap.size := (by omega); clear Hw4; generalize wz1.heap.size = Ba at cx4 cy4 z4 hzBa hzCa ⊢) | (obtain ⟨w4, Hw4⟩ : ∃ W, Hid (W = (w3.setCell ⟨w1a.heap.size, 0, none⟩ (.int .i64 (nbN (JnP n0 x0 n1 x1) (n0)))).setCell ⟨w1a.heap.size, 1, none⟩ (.slice p3 l3 c3)) := ⟨_, rfl⟩; rw [← Hw4.out] at ca0 cb0 ca1 cb1 bS ⊢; have cx4 : w4.cell? ⟨w1a.heap.size, 0, none⟩ = some (.int .i64 (nbN (JnP n0 x0 n1 x1) (n0))) := (by rw [Hw4.out, World.cell?_setCell_other _ _ _ _ (by simp)]; exact World.cell?_setCell_same _ _ _ kz0); have cy4 : w4.cell? ⟨w1a.heap.size, 1, none⟩ = some (.slice p3 l3 c3) := (by rw [Hw4.out]; exact World.cell?_setCell_same _ _ _ (u := .slice none 0 0) (by rw [World.cell?_setCell_other _ _ _ _ (by simp)]; exact kz1)); have z4 : w1a.heap.size < w4.heap.size := (by rw [Hw4.out, size_setCell, size_setCell]; exact World.block_lt_of_cell? _ _ kz0); have R3 : OwnSS tInt tInts w4 _ w4.heap.size (.slice p3 l3 c3) _ := (by rw [Hw4.out, size_setCell, size_setCell]; exact (R3.set (by first | omega | (simp; done) | (simp; omega)) _).set (by first | omega | (simp; done) | (simp; omega)) _); have hzBa : w.heap.size + 1 < w1a.heap.size := (by omega); have hzCa : wz1.heap.size ≤ w1a.heap.size := (by omega); clear Hw4; generalize w1a.heap.size = Ba at cx4 cy4 z4 hzBa hzCa ⊢) | (obtain ⟨w4, Hw4⟩ : ∃ W, Hid (W = (w3.setCell ⟨w2a.heap.size, 0, none⟩ (.int .i64 (nbN (JnP n0 x0 n1 x1) (n0)))).setCell ⟨w2a.heap.size, 1, none⟩ (.slice p3 l3 c3)) := ⟨_, rfl⟩; rw [← Hw4.out] at ca0 cb0 ca1 cb1 bS ⊢; have cx4 : w4.cell? ⟨w2a.heap.size, 0, none⟩ = some (.int .i64 (nbN (JnP n0 x0 n1 x1) (n0))) := (by rw [Hw4.out, World.cell?_setCell_other _ _ _ _ (by simp)]; exact World.cell?_setCell_same _ _ _ kz0); have cy4 : w4.cell? ⟨w2a.heap.size, 1, none⟩ = some (.slice p3 l3 c3) := (by rw [Hw4.out]; exact World.cell?_setCell_same _ _ _ (u := .slice none 0 0) (by rw [World.cell?_setCell_other _ _ _ _ (by simp)]; exact kz1)); have z4 : w2a.heap.size < w4.heap.size := (by rw [Hw4.out, size_setCell, size_setCell]; exact World.block_lt_of_cell? _ _ kz0); have R3 : OwnSS tInt tInts w4 _ w4.heap.size (.slice p3 l3 c3) _ := (by rw [Hw4.out, size_setCell, size_setCell]; exact (R3.set (by first | omega | (simp; done) | (simp; omega)) _).set (by first | omega | (simp; done) | (simp; omega)) _); have hzBa : w.heap.size + 1 < w2a.heap.size := (by omega); have hzCa : wz1.heap.size ≤ w2a.heap.size := (by omega); clear Hw4; generalize w2a.heap.size = Ba at cx4 cy4 z4 hzBa hzCa ⊢) | fail)
        have sw4 := bS.size
        replace B := B.trans (bS.mono (by omega))
        clear R1a R2a bS
        go_wp2_with fail
        refine (toNetwork n0 _ x0 _ (I0.keep (Below.keeps B)) hl0).mono ?_; rintro e w5 ⟨u5, rfl, R5, b5⟩
        obtain ⟨p5, l5, c5, hu5⟩ := R5.shape; subst hu5
        replace R3 := R3.below b5 (by omega)
        replace ca0 := Below.keeps b5 _ _ ca0
        replace cb0 := Below.keeps b5 _ _ cb0
        replace ca1 := Below.keeps b5 _ _ ca1
        replace cb1 := Below.keeps b5 _ _ cb1
        replace cx4 := Below.keeps b5 _ _ cx4
        replace cy4 := Below.keeps b5 _ _ cy4
        have sw5 := b5.size
        replace B := B.trans (b5.mono (by omega))
        have : w.heap.size < w5.heap.size := by omega
        have : w.heap.size + 1 < w5.heap.size := by omega
        have : Ba < w5.heap.size := by omega
        go_wp2_with fail
        obtain ⟨w6, Hw6⟩ : ∃ W, Hid (W = w5.alloc (.cells #[.int .i64 n0, (.slice p5 l5 c5)] 26)) := ⟨_, rfl⟩
        rw [← Hw6.out]
        have b6 : Below w5.heap.size w5 w6 := by rw [Hw6.out]; exact (Below.refl _ _).alloc (Nat.le_refl _) _
        replace R3 := R3.below b6 (by omega)
        replace R5 := R5.below b6 (by omega)
        replace ca0 := Below.keeps b6 _ _ ca0
        replace cb0 := Below.keeps b6 _ _ cb0
        replace ca1 := Below.keeps b6 _ _ ca1
        replace cb1 := Below.keeps b6 _ _ cb1
        replace cx4 := Below.keeps b6 _ _ cx4
        replace cy4 := Below.keeps b6 _ _ cy4
        have sw6 := b6.size
        replace B := B.trans (b6.mono (by omega))
        have cx6 : w6.cell? ⟨w5.heap.size, 0, none⟩ = some (.int .i64 n0) := by rw [Hw6.out]; simp [go_sem]
        have cy6 : w6.cell? ⟨w5.heap.size, 1, none⟩ = some (.slice p5 l5 c5) := by rw [Hw6.out]; simp [go_sem]
        have z6 : w5.heap.size < w6.heap.size := by rw [Hw6.out]; simp
        clear Hw6
        refine (toNetwork n1 _ x1 _ (I1.keep (Below.keeps B)) hl1).mono ?_; rintro e w7 ⟨u7, rfl, R7, b7⟩
        obtain ⟨p7, l7, c7, hu7⟩ := R7.shape; subst hu7
        replace R3 := R3.below b7 (by omega)
        replace R5 := R5.below b7 (by omega)
        replace ca0 := Below.keeps b7 _ _ ca0
        replace cb0 := Below.keeps b7 _ _ cb0
        replace ca1 := Below.keeps b7 _ _ ca1
        replace cb1 := Below.keeps b7 _ _ cb1
        replace cx4 := Below.keeps b7 _ _ cx4
        replace cy4 := Below.keeps b7 _ _ cy4
        replace cx6 := Below.keeps b7 _ _ cx6
        replace cy6 := Below.keeps b7 _ _ cy6
        have sw7 := b7.size
        replace B := B.trans (b7.mono (by omega))
        have : w.heap.size < w7.heap.size := by omega
        have : w.heap.size + 1 < w7.heap.size := by omega
        have : Ba < w7.heap.size := by omega
        have : w5.heap.size < w7.heap.size := by omega
        go_wp2_with fail
        obtain ⟨w8, Hw8⟩ : ∃ W, Hid (W = w7.alloc (.cells #[.int .i64 n1, (.slice p7 l7 c7)] 26)) := ⟨_, rfl⟩
        rw [← Hw8.out]
        have b8 : Below w7.heap.size w7 w8 := by rw [Hw8.out]; exact (Below.refl _ _).alloc (Nat.le_refl _) _
        replace R3 := R3.below b8 (by omega)
        replace R5 := R5.below b8 (by omega)
        replace R7 := R7.below b8 (by omega)
        replace ca0 := Below.keeps b8 _ _ ca0
        replace cb0 := Below.keeps b8 _ _ cb0
        replace ca1 := Below.keeps b8 _ _ ca1
        replace cb1 := Below.keeps b8 _ _ cb1
        replace cx4 := Below.keeps b8 _ _ cx4
        replace cy4 := Below.keeps b8 _ _ cy4
        replace cx6 := Below.keeps b8 _ _ cx6
        replace cy6 := Below.keeps b8 _ _ cy6
        have sw8 := b8.size
        replace B := B.trans (b8.mono (by omega))
        have cx8 : w8.cell? ⟨w7.heap.size, 0, none⟩ = some (.int .i64 n1) := by rw [Hw8.out]; simp [go_sem]
        have cy8 : w8.cell? ⟨w7.heap.size, 1, none⟩ = some (.slice p7 l7 c7) := by rw [Hw8.out]; simp [go_sem]
        have z8 : w7.heap.size < w8.heap.size := by rw [Hw8.out]; simp
        clear Hw8
        refine (implJoinNetworks n0 _ x0 n1 _ x1 _ hw0.out R5.intss hl0 hw1.out R7.intss hl1).mono ?_; rintro e w9 ⟨u9, rfl, R9, b9⟩
        replace R3 := R3.below b9 (by omega)
        replace R5 := R5.below b9 (by omega)
        replace R7 := R7.below b9 (by omega)
        replace ca0 := Below.keeps b9 _ _ ca0
        replace cb0 := Below.keeps b9 _ _ cb0
        replace ca1 := Below.keeps b9 _ _ ca1
        replace cb1 := Below.keeps b9 _ _ cb1
        replace cx4 := Below.keeps b9 _ _ cx4
        replace cy4 := Below.keeps b9 _ _ cy4
        replace cx6 := Below.keeps b9 _ _ cx6
        replace cy6 := Below.keeps b9 _ _ cy6
        replace cx8 := Below.keeps b9 _ _ cx8
        replace cy8 := Below.keeps b9 _ _ cy8
        have sw9 := b9.size
        replace B := B.trans (b9.mono (by omega))
        obtain ⟨p9, l9, c9, hu9⟩ := R9.shape; subst hu9
        have : w.heap.size < w9.heap.size := by omega
        have : w.heap.size + 1 < w9.heap.size := by omega
        have : Ba < w9.heap.size := by omega
        have : w5.heap.size < w9.heap.size := by omega
        have : w7.heap.size < w9.heap.size := by omega
        go_wp2_with fail
        obtain ⟨w10, Hw10⟩ : ∃ W, Hid (W = w9.alloc (.cells #[.int .i64 (nbN (JnP n0 x0 n1 x1) (n0)), (.slice p9 l9 c9)] 26)) := ⟨_, rfl⟩
        rw [← Hw10.out]
        have b10 : Below w9.heap.size w9 w10 := by rw [Hw10.out]; exact (Below.refl _ _).alloc (Nat.le_refl _) _
        replace R3 := R3.below b10 (by omega)
        replace R5 := R5.below b10 (by omega)
        replace R7 := R7.below b10 (by omega)
        replace R9 := R9.below b10 (by omega)
        replace ca0 := Below.keeps b10 _ _ ca0
        replace cb0 := Below.keeps b10 _ _ cb0
        replace ca1 := Below.keeps b10 _ _ ca1
        replace cb1 := Below.keeps b10 _ _ cb1
        replace cx4 := Below.keeps b10 _ _ cx4
        replace cy4 := Below.keeps b10 _ _ cy4
        replace cx6 := Below.keeps b10 _ _ cx6
        replace cy6 := Below.keeps b10 _ _ cy6
        replace cx8 := Below.keeps b10 _ _ cx8
        replace cy8 := Below.keeps b10 _ _ cy8
        have sw10 := b10.size
        replace B := B.trans (b10.mono (by omega))
        have cx10 : w10.cell? ⟨w9.heap.size, 0, none⟩ = some (.int .i64 (nbN (JnP n0 x0 n1 x1) (n0))) := by rw [Hw10.out]; simp [go_sem]
        have cy10 : w10.cell? ⟨w9.heap.size, 1, none⟩ = some (.slice p9 l9 c9) := by rw [Hw10.out]; simp [go_sem]
        have z10 : w9.heap.size < w10.heap.size := by rw [Hw10.out]; simp
        clear Hw10
        refine (eqNetwork_yes _ _ _ _ _ R9.intss R3.intss).mono ?_; rintro e w11 ⟨rfl, b11⟩
        replace R3 := R3.below b11 (by omega)
        replace R5 := R5.below b11 (by omega)
        replace R7 := R7.below b11 (by omega)
        replace R9 := R9.below b11 (by omega)
        replace ca0 := Below.keeps b11 _ _ ca0
        replace cb0 := Below.keeps b11 _ _ cb0
        replace ca1 := Below.keeps b11 _ _ ca1
        replace cb1 := Below.keeps b11 _ _ cb1
        replace cx4 := Below.keeps b11 _ _ cx4
        replace cy4 := Below.keeps b11 _ _ cy4
        replace cx6 := Below.keeps b11 _ _ cx6
        replace cy6 := Below.keeps b11 _ _ cy6
        replace cx8 := Below.keeps b11 _ _ cx8
        replace cy8 := Below.keeps b11 _ _ cy8
        replace cx10 := Below.keeps b11 _ _ cx10
        replace cy10 := Below.keeps b11 _ _ cy10
        have sw11 := b11.size
        replace B := B.trans (b11.mono (by omega))
        have JX := R5.intss
        go_wp2
        go_region_held3 (fun w' => (w'.cell? ⟨w5.heap.size, 0, none⟩ = some (.int .i64 n0) ∧ w'.cell? ⟨w5.heap.size, 1, none⟩ = some (.slice p5 l5 c5) ∧ w'.cell? ⟨w.heap.size, 0, none⟩ = some (.int .i64 n0) ∧ w'.cell? ⟨w.heap.size, 1, none⟩ = some (.slice ao0 x0.length cap0)) ∧ Below w11.heap.size w11 w')
          (first | exact ⟨⟨cx6, cy6, ca0, cb0⟩, (Below.refl _ _).drew⟩ | exact held4 (by assumption) (by assumption))
          (first | (go_at_call 10; refine (toNetwork n0 _ x0 _ (I0.keep ((Below.keeps B).trans (Below.keeps (And.right (by assumption))))) hl0).mono ?_; rintro e w12a ⟨u12a, rfl, R12a, b12a⟩) | (go_at_call 12; refine (eqNetwork_yes n0 _ _ x0 _ (JX.keep (Below.keeps (And.right (by assumption)))) R12a.intss).mono ?_; rintro e w12 ⟨rfl, b12b⟩))
        have b12 : Below w11.heap.size w11 w12 := And.right (by assumption)
        clear JX
        replace R3 := R3.below b12 (by omega)
        replace R5 := R5.below b12 (by omega)
        replace R7 := R7.below b12 (by omega)
        replace R9 := R9.below b12 (by omega)
        replace ca0 := Below.keeps b12 _ _ ca0
        replace cb0 := Below.keeps b12 _ _ cb0
        replace ca1 := Below.keeps b12 _ _ ca1
        replace cb1 := Below.keeps b12 _ _ cb1
        replace cx4 := Below.keeps b12 _ _ cx4
        replace cy4 := Below.keeps b12 _ _ cy4
        replace cx6 := Below.keeps b12 _ _ cx6
        replace cy6 := Below.keeps b12 _ _ cy6
        replace cx8 := Below.keeps b12 _ _ cx8
        replace cy8 := Below.keeps b12 _ _ cy8
        replace cx10 := Below.keeps b12 _ _ cx10
        replace cy10 := Below.keeps b12 _ _ cy10
        have sw12 := b12.size
        replace B := B.trans (b12.mono (by omega))
        have JX := R7.intss
        go_wp2
        go_region_held3 (fun w' => (w'.cell? ⟨w7.heap.size, 0, none⟩ = some (.int .i64 n1) ∧ w'.cell? ⟨w7.heap.size, 1, none⟩ = some (.slice p7 l7 c7) ∧ w'.cell? ⟨w.heap.size + 1, 0, none⟩ = some (.int .i64 n1) ∧ w'.cell? ⟨w.heap.size + 1, 1, none⟩ = some (.slice ao1 x1.length cap1)) ∧ Below w12.heap.size w12 w')
          (first | exact ⟨⟨cx8, cy8, ca1, cb1⟩, (Below.refl _ _).drew⟩ | exact held4 (by assumption) (by assumption))
          (first | (go_at_call 10; refine (toNetwork n1 _ x1 _ (I1.keep ((Below.keeps B).trans (Below.keeps (And.right (by assumption))))) hl1).mono ?_; rintro e w13a ⟨u13a, rfl, R13a, b13a⟩) | (go_at_call 12; refine (eqNetwork_yes n1 _ _ x1 _ (JX.keep (Below.keeps (And.right (by assumption)))) R13a.intss).mono ?_; rintro e w13 ⟨rfl, b13b⟩))
        have b13 : Below w12.heap.size w12 w13 := And.right (by assumption)
        clear JX
        replace R3 := R3.below b13 (by omega)
        replace R5 := R5.below b13 (by omega)
        replace R7 := R7.below b13 (by omega)
        replace R9 := R9.below b13 (by omega)
        replace ca0 := Below.keeps b13 _ _ ca0
        replace cb0 := Below.keeps b13 _ _ cb0
        replace ca1 := Below.keeps b13 _ _ ca1
        replace cb1 := Below.keeps b13 _ _ cb1
        replace cx4 := Below.keeps b13 _ _ cx4
        replace cy4 := Below.keeps b13 _ _ cy4
        replace cx6 := Below.keeps b13 _ _ cx6
        replace cy6 := Below.keeps b13 _ _ cy6
        replace cx8 := Below.keeps b13 _ _ cx8
        replace cy8 := Below.keeps b13 _ _ cy8
        replace cx10 := Below.keeps b13 _ _ cx10
        replace cy10 := Below.keeps b13 _ _ cy10
        have sw13 := b13.size
        replace B := B.trans (b13.mono (by omega))
        go_wp2_with fail
        refine (markNetwork _ _ _ _ (x0) ((1 : Int)) _ R5 (by omega) (by omega) (by omega)).mono ?_; rintro e w14 ⟨rfl, R5, c14⟩
        replace R3 := R3.chg c14 (by omega)
        replace R7 := R7.chg c14 (by omega)
        replace R9 := R9.chg c14 (by omega)
        replace ca0 := chg_cell c14 (by omega) ca0
        replace cb0 := chg_cell c14 (by omega) cb0
        replace ca1 := chg_cell c14 (by omega) ca1
        replace cb1 := chg_cell c14 (by omega) cb1
        replace cx4 := chg_cell c14 (by omega) cx4
        replace cy4 := chg_cell c14 (by omega) cy4
        replace cx6 := chg_cell c14 (by omega) cx6
        replace cy6 := chg_cell c14 (by omega) cy6
        replace cx8 := chg_cell c14 (by omega) cx8
        replace cy8 := chg_cell c14 (by omega) cy8
        replace cx10 := chg_cell c14 (by omega) cx10
        replace cy10 := chg_cell c14 (by omega) cy10
        have sw14 := c14.size
        replace B := B.trans (c14.below (by omega) (by omega))
        clear R5
        go_wp2_with fail
        refine (markNetwork _ _ _ _ (x1) (((1 : Int) + (sumLen (x0) : Int))) _ R7 (by omega) (by omega) (by omega)).mono ?_; rintro e w15 ⟨rfl, R7, c15⟩
        replace R3 := R3.chg c15 (by omega)
        replace R9 := R9.chg c15 (by omega)
        replace ca0 := chg_cell c15 (by omega) ca0
        replace cb0 := chg_cell c15 (by omega) cb0
        replace ca1 := chg_cell c15 (by omega) ca1
        replace cb1 := chg_cell c15 (by omega) cb1
        replace cx4 := chg_cell c15 (by omega) cx4
        replace cy4 := chg_cell c15 (by omega) cy4
        replace cx6 := chg_cell c15 (by omega) cx6
        replace cy6 := chg_cell c15 (by omega) cy6
        replace cx8 := chg_cell c15 (by omega) cx8
        replace cy8 := chg_cell c15 (by omega) cy8
        replace cx10 := chg_cell c15 (by omega) cx10
        replace cy10 := chg_cell c15 (by omega) cy10
        have sw15 := c15.size
        replace B := B.trans (c15.below (by omega) (by omega))
        clear R7
        have hk : decide ((((1 : Int) + (sumLen (x0) : Int)) + (sumLen (x1) : Int)) < 0) = false := decide_eq_false (by omega)
        go_wp2_with fail
        refine (eqNetwork_yes _ _ _ _ _ R9.intss R3.intss).mono ?_; rintro e w16 ⟨rfl, b16⟩
        replace R3 := R3.below b16 (by omega)
        replace R9 := R9.below b16 (by omega)
        replace ca0 := Below.keeps b16 _ _ ca0
        replace cb0 := Below.keeps b16 _ _ cb0
        replace ca1 := Below.keeps b16 _ _ ca1
        replace cb1 := Below.keeps b16 _ _ cb1
        replace cx4 := Below.keeps b16 _ _ cx4
        replace cy4 := Below.keeps b16 _ _ cy4
        replace cx6 := Below.keeps b16 _ _ cx6
        replace cy6 := Below.keeps b16 _ _ cy6
        replace cx8 := Below.keeps b16 _ _ cx8
        replace cy8 := Below.keeps b16 _ _ cy8
        replace cx10 := Below.keeps b16 _ _ cx10
        replace cy10 := Below.keeps b16 _ _ cy10
        have sw16 := b16.size
        replace B := B.trans (b16.mono (by omega))
        go_wp2_with fail
        refine (markNetwork _ _ _ _ (nbR (JnP n0 x0 n1 x1) (x0 ++ x1)) ((1 : Int)) _ R9 (by omega) (by omega) (by omega)).mono ?_; rintro e w17 ⟨rfl, R9, c17⟩
        replace R3 := R3.chg c17 (by omega)
        replace ca0 := chg_cell c17 (by omega) ca0
        replace cb0 := chg_cell c17 (by omega) cb0
        replace ca1 := chg_cell c17 (by omega) ca1
        replace cb1 := chg_cell c17 (by omega) cb1
        replace cx4 := chg_cell c17 (by omega) cx4
        replace cy4 := chg_cell c17 (by omega) cy4
        replace cx6 := chg_cell c17 (by omega) cx6
        replace cy6 := chg_cell c17 (by omega) cy6
        replace cx8 := chg_cell c17 (by omega) cx8
        replace cy8 := chg_cell c17 (by omega) cy8
        replace cx10 := chg_cell c17 (by omega) cx10
        replace cy10 := chg_cell c17 (by omega) cy10
        have sw17 := c17.size
        replace B := B.trans (c17.below (by omega) (by omega))
        go_wp2_with fail
        refine (heldNetwork _ _ (nbR (JnP n0 x0 n1 x1) (x0 ++ x1)) ((1 : Int)) _ R9.intss (by omega) (by omega)).mono ?_; rintro e w18 ⟨rfl, b18⟩
        replace R3 := R3.below b18 (by omega)
        replace R9 := R9.below b18 (by omega)
        replace ca0 := Below.keeps b18 _ _ ca0
        replace cb0 := Below.keeps b18 _ _ cb0
        replace ca1 := Below.keeps b18 _ _ ca1
        replace cb1 := Below.keeps b18 _ _ cb1
        replace cx4 := Below.keeps b18 _ _ cx4
        replace cy4 := Below.keeps b18 _ _ cy4
        replace cx6 := Below.keeps b18 _ _ cx6
        replace cy6 := Below.keeps b18 _ _ cy6
        replace cx8 := Below.keeps b18 _ _ cx8
        replace cy8 := Below.keeps b18 _ _ cy8
        replace cx10 := Below.keeps b18 _ _ cx10
        replace cy10 := Below.keeps b18 _ _ cy10
        have sw18 := b18.size
        replace B := B.trans (b18.mono (by omega))
        have hqm : (((1 : Int) + (sumLen (nbR (JnP n0 x0 n1 x1) (x0 ++ x1)) : Int)) != ((1 : Int) + (sumLen (nbR (JnP n0 x0 n1 x1) (x0 ++ x1)) : Int))) = false := by simp
        go_wp2
        go_region_held3 (fun w' => (w'.cell? ⟨w.heap.size, 0, none⟩ = some (.int .i64 n0) ∧ w'.cell? ⟨w.heap.size, 1, none⟩ = some (.slice ao0 x0.length cap0) ∧ w'.cell? ⟨w.heap.size + 1, 0, none⟩ = some (.int .i64 n1) ∧ w'.cell? ⟨w.heap.size + 1, 1, none⟩ = some (.slice ao1 x1.length cap1)) ∧ Below w18.heap.size w18 w')
          ((first | exact ⟨⟨ca0, cb0, ca1, cb1⟩, (Below.refl _ _).drew⟩ | exact held4 (by assumption) (by assumption) | exact held4_st (by assumption) (by omega) (by first | (simp; done) | (simp; omega)) (by first | (simp; done) | (simp; omega)) | exact held4_sw (by assumption) (by omega) (by first | omega | (simp; done) | (simp; omega)) (by first | omega | (simp; done) | (simp; omega)) | exact held4 ((Below.refl _ _).alloc (Nat.le_refl _) _) (by assumption) | fail))
          ((first | (go_at_call 10; refine Calls.mono (by with_reducible exact toNetwork n0 _ x0 _ (I0.keep ((Below.keeps B).trans (Below.keeps (And.right (by assumption))))) hl0) ?_; rintro e w1h ⟨u1h, rfl, R1h, b1h⟩; have sz1h : w18.heap.size ≤ w1h.heap.size := Nat.le_trans (by first | exact Nat.le_refl _ | simp) b1h.size; (first | (have kz0 : w1h.cell? ⟨w18.heap.size, 0, none⟩ = some (.int .i64 0) := (b1h.cell (by first | (simp; done) | (simp; omega))).trans (by simp [go_sem]); have kz1 : w1h.cell? ⟨w18.heap.size, 1, none⟩ = some (.slice none 0 0) := (b1h.cell (by first | (simp; done) | (simp; omega))).trans (by simp [go_sem]); have kf0 : w1h.frozen? ⟨w18.heap.size, 0, none⟩ = false := (b1h.frozen (by first | (simp; done) | (simp; omega))).trans (by simp [go_sem]); have kf1 : w1h.frozen? ⟨w18.heap.size, 1, none⟩ = false := (b1h.frozen (by first | (simp; done) | (simp; omega))).trans (by simp [go_sem]); have kzl : w18.heap.size < w1h.heap.size := World.block_lt_of_cell? _ _ kz0) | skip)) | (go_at_call 10; refine Calls.mono (by with_reducible exact toNetwork n1 _ x1 _ (I1.keep ((Below.keeps B).trans (Below.keeps (And.right (by assumption))))) hl1) ?_; rintro e w2h ⟨u2h, rfl, R2h, b2h⟩; have sz2h : w1h.heap.size ≤ w2h.heap.size := Nat.le_trans (by first | exact Nat.le_refl _ | simp) b2h.size; (first | (have kf0 := (b2h.frozen (World.block_lt_of_cell? _ _ kz0)).trans kf0; have kf1 := (b2h.frozen (World.block_lt_of_cell? _ _ kz1)).trans kf1; have kz0 := Below.keeps b2h _ _ kz0; have kz1 := Below.keeps b2h _ _ kz1) | (have kz0 : w2h.cell? ⟨w1h.heap.size, 0, none⟩ = some (.int .i64 0) := (b2h.cell (by first | (simp; done) | (simp; omega))).trans (by simp [go_sem]); have kz1 : w2h.cell? ⟨w1h.heap.size, 1, none⟩ = some (.slice none 0 0) := (b2h.cell (by first | (simp; done) | (simp; omega))).trans (by simp [go_sem]); have kf0 : w2h.frozen? ⟨w1h.heap.size, 0, none⟩ = false := (b2h.frozen (by first | (simp; done) | (simp; omega))).trans (by simp [go_sem]); have kf1 : w2h.frozen? ⟨w1h.heap.size, 1, none⟩ = false := (b2h.frozen (by first | (simp; done) | (simp; omega))).trans (by simp [go_sem]); have kzl : w1h.heap.size < w2h.heap.size := World.block_lt_of_cell? _ _ kz0) | skip)) | (go_at_call 11; refine (implJoinNetworks n0 _ x0 n1 _ x1 _ hw0.out (by first | exact R1h.intss | exact R1h.intss.keep (Below.keeps b2h) | exact R1h.intss.keep (Below.keeps ((Below.refl _ _).alloc (Nat.le_refl _) _)) | exact R1h.intss.keep ((Below.keeps b2h).trans (Below.keeps ((Below.refl _ _).alloc (Nat.le_refl _) _))) | exact R1h.intss.keep ((Below.keeps ((Below.refl _ _).alloc (Nat.le_refl _) _)).trans (Below.keeps b2h))) hl0 hw1.out (by first | exact R2h.intss | exact R2h.intss.keep (Below.keeps ((Below.refl _ _).alloc (Nat.le_refl _) _))) hl1).mono ?_; rintro e w21 ⟨u21, rfl, R21, b3h⟩; have sz3h : w2h.heap.size ≤ w21.heap.size := Nat.le_trans (by first | exact Nat.le_refl _ | simp) b3h.size; obtain ⟨p21, l21, c21, hu21⟩ := R21.shape; subst hu21; (first | (have kf0 := (b3h.frozen (World.block_lt_of_cell? _ _ kz0)).trans kf0; have kf1 := (b3h.frozen (World.block_lt_of_cell? _ _ kz1)).trans kf1; have kz0 := Below.keeps b3h _ _ kz0; have kz1 := Below.keeps b3h _ _ kz1) | (have kz0 : w21.cell? ⟨w2h.heap.size, 0, none⟩ = some (.int .i64 0) := (b3h.cell (by first | (simp; done) | (simp; omega))).trans (by simp [go_sem]); have kz1 : w21.cell? ⟨w2h.heap.size, 1, none⟩ = some (.slice none 0 0) := (b3h.cell (by first | (simp; done) | (simp; omega))).trans (by simp [go_sem]); have kf0 : w21.frozen? ⟨w2h.heap.size, 0, none⟩ = false := (b3h.frozen (by first | (simp; done) | (simp; omega))).trans (by simp [go_sem]); have kf1 : w21.frozen? ⟨w2h.heap.size, 1, none⟩ = false := (b3h.frozen (by first | (simp; done) | (simp; omega))).trans (by simp [go_sem]); have kzl : w2h.heap.size < w21.heap.size := World.block_lt_of_cell? _ _ kz0) | skip))))
        all_goals
          rename_i hH
          obtain ⟨⟨ca0, cb0, ca1, cb1⟩, bS⟩ := hH
          (first | (obtain ⟨w22, Hw22⟩ : ∃ W, Hid (W = w21.alloc (.cells #[.int .i64 (nbN (JnP n0 x0 n1 x1) (n0)), (.slice p21 l21 c21)] 26)) := ⟨_, rfl⟩; rw [← Hw22.out] at ca0 cb0 ca1 cb1 bS ⊢; have cx22 : w22.cell? ⟨w21.heap.size, 0, none⟩ = some (.int .i64 (nbN (JnP n0 x0 n1 x1) (n0))) := (by rw [Hw22.out]; simp [go_sem]); have cy22 : w22.cell? ⟨w21.heap.size, 1, none⟩ = some (.slice p21 l21 c21) := (by rw [Hw22.out]; simp [go_sem]); have z22 : w21.heap.size < w22.heap.size := (by rw [Hw22.out]; simp); have R21 := (R21.below (show Below w21.heap.size w21 w22 from (by rw [Hw22.out]; exact ((Below.refl _ _).alloc (Nat.le_refl _) _))) (Nat.le_refl _)).wide (Nat.le_refl _) (Nat.le_of_lt z22); have hzBh : w.heap.size + 1 < w21.heap.size := (by omega); have hzCh : w18.heap.size ≤ w21.heap.size := (by omega); clear Hw22; generalize w21.heap.size = Bh at cx22 cy22 z22 hzBh hzCh ⊢) | (obtain ⟨w22, Hw22⟩ : ∃ W, Hid (W = (w21.setCell ⟨w18.heap.size, 0, none⟩ (.int .i64 (nbN (JnP n0 x0 n1 x1) (n0)))).setCell ⟨w18.heap.size, 1, none⟩ (.slice p21 l21 c21)) := ⟨_, rfl⟩; rw [← Hw22.out] at ca0 cb0 ca1 cb1 bS ⊢; have cx22 : w22.cell? ⟨w18.heap.size, 0, none⟩ = some (.int .i64 (nbN (JnP n0 x0 n1 x1) (n0))) := (by rw [Hw22.out, World.cell?_setCell_other _ _ _ _ (by simp)]; exact World.cell?_setCell_same _ _ _ kz0); have cy22 : w22.cell? ⟨w18.heap.size, 1, none⟩ = some (.slice p21 l21 c21) := (by rw [Hw22.out]; exact World.cell?_setCell_same _ _ _ (u := .slice none 0 0) (by rw [World.cell?_setCell_other _ _ _ _ (by simp)]; exact kz1)); have z22 : w18.heap.size < w22.heap.size := (by rw [Hw22.out, size_setCell, size_setCell]; exact World.block_lt_of_cell? _ _ kz0); have R21 : OwnSS tInt tInts w22 _ w22.heap.size (.slice p21 l21 c21) _ := (by rw [Hw22.out, size_setCell, size_setCell]; exact (R21.set (by first | omega | (simp; done) | (simp; omega)) _).set (by first | omega | (simp; done) | (simp; omega)) _); have hzBh : w.heap.size + 1 < w18.heap.size := (by omega); have hzCh : w18.heap.size ≤ w18.heap.size := (by omega); clear Hw22; generalize w18.heap.size = Bh at cx22 cy22 z22 hzBh hzCh ⊢) | (obtain ⟨w22, Hw22⟩ : ∃ W, Hid (W = (w21.setCell ⟨w1h.heap.size, 0, none⟩ (.int .i64 (nbN (JnP n0 x0 n1 x1) (n0)))).setCell ⟨w1h.heap.size, 1, none⟩ (.slice p21 l21 c21)) := ⟨_, rfl⟩; rw [← Hw22.out] at ca0 cb0 ca1 cb1 bS ⊢; have cx22 : w22.cell? ⟨w1h.heap.size, 0, none⟩ = some (.int .i64 (nbN (JnP n0 x0 n1 x1) (n0))) := (by rw [Hw22.out, World.cell?_setCell_other _ _ _ _ (by simp)]; exact World.cell?_setCell_same _ _ _ kz0); have cy22 : w22.cell? ⟨w1h.heap.size, 1, none⟩ = some (.slice p21 l21 c21) := (by rw [Hw22.out]; exact World.cell?_setCell_same _ _ _ (u := .slice none 0 0) (by rw [World.cell?_setCell_other _ _ _ _ (by simp)]; exact kz1)); have z22 : w1h.heap.size < w22.heap.size := (by rw [Hw22.out, size_setCell, size_setCell]; exact World.block_lt_of_cell? _ _ kz0); have R21 : OwnSS tInt tInts w22 _ w22.heap.size (.slice p21 l21 c21) _ := (by rw [Hw22.out, size_setCell, size_setCell]; exact (R21.set (by first | omega | (simp; done) | (simp; omega)) _).set (by first | omega | (simp; done) | (simp; omega)) _); have hzBh : w.heap.size + 1 < w1h.heap.size := (by omega); have hzCh : w18.heap.size ≤ w1h.heap.size := (by omega); clear Hw22; generalize w1h.heap.size = Bh at cx22 cy22 z22 hzBh hzCh ⊢) | (obtain ⟨w22, Hw22⟩ : ∃ W, Hid (W = (w21.setCell ⟨w2h.heap.size, 0, none⟩ (.int .i64 (nbN (JnP n0 x0 n1 x1) (n0)))).setCell ⟨w2h.heap.size, 1, none⟩ (.slice p21 l21 c21)) := ⟨_, rfl⟩; rw [← Hw22.out] at ca0 cb0 ca1 cb1 bS ⊢; have cx22 : w22.cell? ⟨w2h.heap.size, 0, none⟩ = some (.int .i64 (nbN (JnP n0 x0 n1 x1) (n0))) := (by rw [Hw22.out, World.cell?_setCell_other _ _ _ _ (by simp)]; exact World.cell?_setCell_same _ _ _ kz0); have cy22 : w22.cell? ⟨w2h.heap.size, 1, none⟩ = some (.slice p21 l21 c21) := (by rw [Hw22.out]; exact World.cell?_setCell_same _ _ _ (u := .slice none 0 0) (by rw [World.cell?_setCell_other _ _ _ _ (by simp)]; exact kz1)); have z22 : w2h.heap.size < w22.heap.size := (by rw [Hw22.out, size_setCell, size_setCell]; exact World.block_lt_of_cell? _ _ kz0); have R21 : OwnSS tInt tInts w22 _ w22.heap.size (.slice p21 l21 c21) _ := (by rw [Hw22.out, size_setCell, size_setCell]; exact (R21.set (by first | omega | (simp; done) | (simp; omega)) _).set (by first | omega | (simp; done) | (simp; omega)) _); have hzBh : w.heap.size + 1 < w2h.heap.size := (by omega); have hzCh : w18.heap.size ≤ w2h.heap.size := (by omega); clear Hw22; generalize w2h.heap.size = Bh at cx22 cy22 z22 hzBh hzCh ⊢) | fail)
          replace R3 := R3.below bS (by omega)
          replace R9 := R9.below bS (by omega)
          replace cx4 := Below.keeps bS _ _ cx4
          replace cy4 := Below.keeps bS _ _ cy4
          replace cx6 := Below.keeps bS _ _ cx6
          replace cy6 := Below.keeps bS _ _ cy6
          replace cx8 := Below.keeps bS _ _ cx8
          replace cy8 := Below.keeps bS _ _ cy8
          replace cx10 := Below.keeps bS _ _ cx10
          replace cy10 := Below.keeps bS _ _ cy10
          have sw22 := bS.size
          replace B := B.trans (bS.mono (by omega))
          clear R1h R2h bS
          go_wp2_with fail
          refine (eqNetwork_yes _ _ _ _ _ R21.intss R3.intss).mono ?_; rintro e w23 ⟨rfl, b23⟩
          replace R3 := R3.below b23 (by omega)
          replace R9 := R9.below b23 (by omega)
          replace R21 := R21.below b23 (by omega)
          replace ca0 := Below.keeps b23 _ _ ca0
          replace cb0 := Below.keeps b23 _ _ cb0
          replace ca1 := Below.keeps b23 _ _ ca1
          replace cb1 := Below.keeps b23 _ _ cb1
          replace cx4 := Below.keeps b23 _ _ cx4
          replace cy4 := Below.keeps b23 _ _ cy4
          replace cx6 := Below.keeps b23 _ _ cx6
          replace cy6 := Below.keeps b23 _ _ cy6
          replace cx8 := Below.keeps b23 _ _ cx8
          replace cy8 := Below.keeps b23 _ _ cy8
          replace cx10 := Below.keeps b23 _ _ cx10
          replace cy10 := Below.keeps b23 _ _ cy10
          replace cx22 := Below.keeps b23 _ _ cx22
          replace cy22 := Below.keeps b23 _ _ cy22
          have sw23 := b23.size
          replace B := B.trans (b23.mono (by omega))
          go_wp2_with fail
          refine (heldNetwork _ _ (nbR (JnP n0 x0 n1 x1) (x0 ++ x1)) ((1 : Int)) _ R9.intss (by omega) (by omega)).mono ?_; rintro e w24 ⟨rfl, b24⟩
          replace R3 := R3.below b24 (by omega)
          replace R9 := R9.below b24 (by omega)
          replace R21 := R21.below b24 (by omega)
          replace ca0 := Below.keeps b24 _ _ ca0
          replace cb0 := Below.keeps b24 _ _ cb0
          replace ca1 := Below.keeps b24 _ _ ca1
          replace cb1 := Below.keeps b24 _ _ cb1
          replace cx4 := Below.keeps b24 _ _ cx4
          replace cy4 := Below.keeps b24 _ _ cy4
          replace cx6 := Below.keeps b24 _ _ cx6
          replace cy6 := Below.keeps b24 _ _ cy6
          replace cx8 := Below.keeps b24 _ _ cx8
          replace cy8 := Below.keeps b24 _ _ cy8
          replace cx10 := Below.keeps b24 _ _ cx10
          replace cy10 := Below.keeps b24 _ _ cy10
          replace cx22 := Below.keeps b24 _ _ cx22
          replace cy22 := Below.keeps b24 _ _ cy22
          have sw24 := b24.size
          replace B := B.trans (b24.mono (by omega))
          have hqm : (((1 : Int) + (sumLen (nbR (JnP n0 x0 n1 x1) (x0 ++ x1)) : Int)) != ((1 : Int) + (sumLen (nbR (JnP n0 x0 n1 x1) (x0 ++ x1)) : Int))) = false := by simp
          have BE := BB.trans (B.mono BB.size)
          go_wp2
          go_ret
          exact ⟨rfl, BE⟩
    · skip
      have hs1 : szSS x1 (szSS x0 1048576) < 0 := by have hgg := hg1; generalize szSS x0 1048576 = q at *; unfold szSS szI; rw [if_neg hgg]; omega
      go_enter Try.func3, Try.ntmps3
      have B : Below W0.heap.size W0 W0 := Below.refl _ _
      go_wp2_with fail
      rw [← HW0.out]
      refine (szNetwork n0 _ x0 1048576 _ (I0.keep (Below.keeps B)) (by omega) (by omega)).mono ?_; rintro e w1 ⟨rfl, b1⟩
      have ca0 := Below.keeps b1 _ _ ca0
      have cb0 := Below.keeps b1 _ _ cb0
      have ca1 := Below.keeps b1 _ _ ca1
      have cb1 := Below.keeps b1 _ _ cb1
      have B := B.trans (b1.mono (by omega)); have sw1 := b1.size
      go_wp2_with fail
      refine (szNetwork n1 _ x1 (szSS x0 1048576) _ (I1.keep (Below.keeps B)) (by omega) (by omega)).mono ?_; rintro e w2 ⟨rfl, b2⟩
      have ca0 := Below.keeps b2 _ _ ca0
      have cb0 := Below.keeps b2 _ _ cb0
      have ca1 := Below.keeps b2 _ _ ca1
      have cb1 := Below.keeps b2 _ _ cb1
      have B := B.trans (b2.mono (by omega)); have sw2 := b2.size
      have BE := BB.trans (B.mono BB.size)
      go_wp2
      go_ret
      exact ⟨rfl, BE⟩
  · skip
    have hs0 : szSS x0 1048576 < 0 := by unfold szSS szI; rw [if_neg hg0]; omega
    go_enter Try.func3, Try.ntmps3
    have B : Below W0.heap.size W0 W0 := Below.refl _ _
    go_wp2_with fail
    rw [← HW0.out]
    refine (szNetwork n0 _ x0 1048576 _ (I0.keep (Below.keeps B)) (by omega) (by omega)).mono ?_; rintro e w1 ⟨rfl, b1⟩
    have ca0 := Below.keeps b1 _ _ ca0
    have cb0 := Below.keeps b1 _ _ cb0
    have ca1 := Below.keeps b1 _ _ ca1
    have cb1 := Below.keeps b1 _ _ cb1
    have B := B.trans (b1.mono (by omega)); have sw1 := b1.size
    have BE := BB.trans (B.mono BB.size)
    go_wp2
    go_ret
    exact ⟨rfl, BE⟩


set_option maxRecDepth 100000 in
theorem lifted (os : Os) (started : os.Started) (H : Type) (enc : TypeId × Value → H) :
    ReturnsInHanded {} Try.checked os 3 .any (Rows.fnExactJoinNetworksSpec.pre6 enc Try.prog Try.f3 Rows.fnExactJoinNetworksRow.domain false) (Rows.fnExactJoinNetworksSpec.post enc Try.prog Try.f3 false true false false) := by
  refine returnsInHanded_of_change (C := Try.checked) own started (by kernel_rfl) Try.func3
    (ChangeSpec.witness6 (enc := enc) (C := Try.checked) false ⟨#[], #[.agg #[.int .i64 0, .slice none 0 0], .agg #[.int .i64 0, .slice none 0 0]], []⟩ 8 (by kernel_rfl) (by kernel_rfl) (by kernel_rfl) (by kernel_rfl)) ?_
  intro W base args ds gs before hval0 hW hcnd _
  have hval : ∀ (j : Nat) t v, Try.f3.params[j]? = some t → args[j]? = some v → Value.okWide Try.prog W .any base t v := hval0
  have hW' := hW
  obtain ⟨p, q, hA0, hV, rfl, hfz, hnd⟩ := hW
  have hA : DataW.TrodAll enc Try.prog W 0 (fun _ => true) true Try.f3.params.toList args.toList ds p := hA0
  rw [Try.params3] at hA hval
  obtain ⟨v0, vs0, d0, ds0, p0, q0, hargs, rfl, rfl, h0, r0⟩ := trodAll_cons hA
  obtain ⟨v1, vs1, d1, ds1, p1, q1, rfl, rfl, rfl, h1, r1⟩ := trodAll_cons r0
  obtain ⟨rfl, rfl, rfl⟩ := trodAll_nil r1
  obtain rfl : args = #[v0, v1] := by cases args; simp_all
  obtain ⟨rfl, rfl⟩ := trodVars_none hV
  have k0 := h0
  have lt0 : ∀ x ∈ p0, x.block < W.heap.size := by obtain ⟨m, hm⟩ := k0; exact DataW.trod_lt m _ _ _ hm
  obtain ⟨n0, u0, x0, rfl, w0, z0⟩ := openNet (hval 0 24 v0 rfl rfl) h0
  have k1 := h1
  have lt1 : ∀ x ∈ p1, x.block < W.heap.size := by obtain ⟨m, hm⟩ := k1; exact DataW.trod_lt m _ _ _ hm
  obtain ⟨n1, u1, x1, rfl, w1, z1⟩ := openNet (hval 1 24 v1 rfl rfl) h1
  clear hA0 hval0
  refine (law n0 u0 x0 n1 u1 x1 W w0 z0 w1 z1).mono fun e W' ⟨he, bel⟩ => ?_
  subst he
  exact ⟨_, rfl, _, _, _, [], _, [], hW', trodAll_mk1 (shut_bool Try.underlying4 _), (trodAll_cons_mk (Below.trod laidOut (by kernel_rfl) (of_decide_eq_true (by kernel_rfl)) k0 bel lt0) (trodAll_cons_mk (Below.trod laidOut (by kernel_rfl) (of_decide_eq_true (by kernel_rfl)) k1 bel lt1) trodAll_mk0)), rfl, bel.frame _, fun h => by cases h⟩

theorem band {a b : Bool} (h1 : a = true) (h2 : b = true) : (a && b) = true := by subst h1; subst h2; rfl
set_option maxHeartbeats 4000000 in
/-- The closed facts of the program, each checked by itself. -/
theorem joined : joinedFacts Try.prog 3 Try.f3 Rows.fnExactJoinNetworksSpec Rows.fnExactJoinNetworksRow = true := by
  unfold joinedFacts
  repeat' (with_reducible apply band)
  all_goals (as_aux_lemma => kernel_rfl)

theorem over : Rows.fnExactJoinNetworksRow.holds Try.pinned (OpenSpec.ofChange Rows.fnExactJoinNetworksSpec) :=
  OpenClaim.holds_of_wide 3 Try.f3 rfl rfl rfl rfl rfl rfl rfl ⟨rfl, rfl, rfl, rfl, rfl⟩ rfl rfl rfl rfl rfl (by as_aux_lemma => kernel_rfl) Try.func3 joined
    (of_decide_eq_true (by as_aux_lemma => kernel_rfl)) (by unfold Func.isWrapper; first | (rw [if_pos (by decide +kernel)]; kernel_rfl) | (rw [if_neg (by decide +kernel)]; exact ⟨rfl, rfl⟩))
    (fun os started H enc _ => lifted os started H enc)

theorem proved : Rows.FnExactJoinNetworksSaid := over
end Go.Proofs.Ytcmdnjnnidkboaa.fnExactJoinNetworks
