/- The statement FnExactRenameWires: the law returns true for every input, and every input reads behind the call as it read before. No condition. -/
import Derived.Test.YtelilimkcboioaaRows
import Derived.Test.YtelilimkcboioaaRename2
import Derived.Test.YtelilimkcboioaaNetB
import Derived.Test.YtelilimkcboioaaMark
import Derived.Test.YtelilimkcboioaaOpenNet
namespace Go.Proofs.Ytelilimkcboioaa.fnExactRenameWires
open Go.ChangeShapes Go.WideShapes Go.ChangeAt Go.RowKit Go.Proofs.Ytelilimkcboioaa
open Go.ChangeMaps (open_string shut_string)
set_option linter.unusedVariables false

set_option maxHeartbeats 4000000 in
set_option maxRecDepth 100000 in
theorem law (n0 : Int) (v0 : Value) (x0 : List (List Int)) (v1 : Value) (x1 : List Int) (w : World) (h0 : (Lit.int .i64 n0).wf = true) (I0 : IntSS w v0 x0) (I1 : Ints w v1 x1) :
    Calls Try.prog 10 #[.agg #[.int .i64 n0, v0], v1] w fun e w' => e = .returned (.bool true) ∧ Below w.heap.size w w' := by
  obtain ⟨ao0, cap0, hv0, hcap0, hmax0, hnil0, hcell0⟩ := id I0
  clear hnil0 hcell0
  unfold maxLen at hmax0
  have hw0 := Lib.hid h0; clear h0
  obtain ⟨ao1, cap1, hv1, hcap1, hmax1, hnil1, hcell1⟩ := id I1
  clear hnil1 hcell1
  unfold maxLen at hmax1
  have hd0 := rn_le n0 x0 x1
  have hb0 : (tf (RnP n0 x0 x1) != tf (RnP n0 x0 x1)) = false := by simp
  obtain ⟨W0, HW0⟩ : ∃ W0, Hid (W0 = (w.alloc (.cells #[.int .i64 n0, v0] 24))) := ⟨_, rfl⟩
  have BB : Below w.heap.size w W0 := by rw [HW0.out]; exact ((Below.refl _ _).alloc (by simp) _)
  have ca0 : W0.cell? ⟨w.heap.size, 0, none⟩ = some (.int .i64 n0) := by rw [HW0.out]; simp [go_sem]
  have cb0 : W0.cell? ⟨w.heap.size, 1, none⟩ = some v0 := by rw [HW0.out]; simp [go_sem]
  have za : w.heap.size + 1 ≤ W0.heap.size := by rw [HW0.out]; simp
  have I0 := I0.keep (Below.keeps BB)
  have I1 := I1.keep (Below.keeps BB)
  subst hv0
  subst hv1
  by_cases hl1 : x1.length ≤ 1048576
  · skip
    by_cases hg0 : ((x0.length + sumLen x0 : Nat) : Int) ≤ 1048576
    · skip
      have hs0 : 0 ≤ szSS x0 1048576 ∧ szSS x0 1048576 ≤ 1048576 := by unfold szSS szI; rw [if_pos hg0]; omega
      have ht0 := hs0.1; have hu0 := hs0.2; clear hs0
      have hl0 : x0.length + sumLen x0 ≤ 1048576 := by omega
      have hq0 : decide ((szSS x0 1048576) < 0) = false := decide_eq_false (by omega)
      go_enter Try.func10, Try.ntmps10
      have B : Below W0.heap.size W0 W0 := Below.refl _ _
      go_wp2_with fail
      rw [← HW0.out]
      refine (szNetwork n0 _ x0 1048576 _ (I0.keep (Below.keeps B)) (by omega) (by omega)).mono ?_; rintro e wz0 ⟨rfl, bz0⟩
      have ca0 := Below.keeps bz0 _ _ ca0
      have cb0 := Below.keeps bz0 _ _ cb0
      have swz0 := bz0.size; have B := B.trans (bz0.mono (by omega))
      go_wp2_with fail
      refine (toNetwork n0 _ x0 _ (I0.keep (Below.keeps B)) hl0).mono ?_; rintro e w1 ⟨u1, rfl, R1, b1⟩
      obtain ⟨p1, l1, c1, hu1⟩ := R1.shape; subst hu1
      replace ca0 := Below.keeps b1 _ _ ca0
      replace cb0 := Below.keeps b1 _ _ cb0
      have sw1 := b1.size
      replace B := B.trans (b1.mono (by omega))
      go_wp2_with fail
      refine (toIntS _ x1 _ (I1.keep (Below.keeps B)) hl1).mono ?_; rintro e w2 ⟨u2, rfl, R2, b2⟩
      replace R1 := R1.below b2 (by omega)
      replace ca0 := Below.keeps b2 _ _ ca0
      replace cb0 := Below.keeps b2 _ _ cb0
      have sw2 := b2.size
      replace B := B.trans (b2.mono (by omega))
      go_wp2_with fail
      refine (specRenameWires n0 _ x0 _ x1 _ hw0.out R1.intss hl0 R2.ints hl1).mono ?_; rintro e w3 ⟨u3, rfl, R3, b3⟩
      replace R1 := R1.below b3 (by omega)
      replace R2 := R2.below b3 (by omega)
      replace ca0 := Below.keeps b3 _ _ ca0
      replace cb0 := Below.keeps b3 _ _ cb0
      have sw3 := b3.size
      replace B := B.trans (b3.mono (by omega))
      obtain ⟨p3, l3, c3, hu3⟩ := R3.shape; subst hu3
      clear R1
      clear R2
      have : w.heap.size < w3.heap.size := by omega
      go_wp2_with fail
      obtain ⟨w4, Hw4⟩ : ∃ W, Hid (W = w3.alloc (.cells #[.int .i64 (nbN (RnP n0 x0 x1) (n0)), (.slice p3 l3 c3)] 26)) := ⟨_, rfl⟩
      rw [← Hw4.out]
      have b4 : Below w3.heap.size w3 w4 := by rw [Hw4.out]; exact (Below.refl _ _).alloc (Nat.le_refl _) _
      replace R3 := R3.below b4 (by omega)
      replace ca0 := Below.keeps b4 _ _ ca0
      replace cb0 := Below.keeps b4 _ _ cb0
      have sw4 := b4.size
      replace B := B.trans (b4.mono (by omega))
      have cx4 : w4.cell? ⟨w3.heap.size, 0, none⟩ = some (.int .i64 (nbN (RnP n0 x0 x1) (n0))) := by rw [Hw4.out]; simp [go_sem]
      have cy4 : w4.cell? ⟨w3.heap.size, 1, none⟩ = some (.slice p3 l3 c3) := by rw [Hw4.out]; simp [go_sem]
      have z4 : w3.heap.size < w4.heap.size := by rw [Hw4.out]; simp
      clear Hw4
      refine (toNetwork n0 _ x0 _ (I0.keep (Below.keeps B)) hl0).mono ?_; rintro e w5 ⟨u5, rfl, R5, b5⟩
      obtain ⟨p5, l5, c5, hu5⟩ := R5.shape; subst hu5
      replace R3 := R3.below b5 (by omega)
      replace ca0 := Below.keeps b5 _ _ ca0
      replace cb0 := Below.keeps b5 _ _ cb0
      replace cx4 := Below.keeps b5 _ _ cx4
      replace cy4 := Below.keeps b5 _ _ cy4
      have sw5 := b5.size
      replace B := B.trans (b5.mono (by omega))
      have : w.heap.size < w5.heap.size := by omega
      have : w3.heap.size < w5.heap.size := by omega
      go_wp2_with fail
      obtain ⟨w6, Hw6⟩ : ∃ W, Hid (W = w5.alloc (.cells #[.int .i64 n0, (.slice p5 l5 c5)] 26)) := ⟨_, rfl⟩
      rw [← Hw6.out]
      have b6 : Below w5.heap.size w5 w6 := by rw [Hw6.out]; exact (Below.refl _ _).alloc (Nat.le_refl _) _
      replace R3 := R3.below b6 (by omega)
      replace R5 := R5.below b6 (by omega)
      replace ca0 := Below.keeps b6 _ _ ca0
      replace cb0 := Below.keeps b6 _ _ cb0
      replace cx4 := Below.keeps b6 _ _ cx4
      replace cy4 := Below.keeps b6 _ _ cy4
      have sw6 := b6.size
      replace B := B.trans (b6.mono (by omega))
      have cx6 : w6.cell? ⟨w5.heap.size, 0, none⟩ = some (.int .i64 n0) := by rw [Hw6.out]; simp [go_sem]
      have cy6 : w6.cell? ⟨w5.heap.size, 1, none⟩ = some (.slice p5 l5 c5) := by rw [Hw6.out]; simp [go_sem]
      have z6 : w5.heap.size < w6.heap.size := by rw [Hw6.out]; simp
      clear Hw6
      refine (toIntS _ x1 _ (I1.keep (Below.keeps B)) hl1).mono ?_; rintro e w7 ⟨u7, rfl, R7, b7⟩
      replace R3 := R3.below b7 (by omega)
      replace R5 := R5.below b7 (by omega)
      replace ca0 := Below.keeps b7 _ _ ca0
      replace cb0 := Below.keeps b7 _ _ cb0
      replace cx4 := Below.keeps b7 _ _ cx4
      replace cy4 := Below.keeps b7 _ _ cy4
      replace cx6 := Below.keeps b7 _ _ cx6
      replace cy6 := Below.keeps b7 _ _ cy6
      have sw7 := b7.size
      replace B := B.trans (b7.mono (by omega))
      go_wp2_with fail
      refine (implRenameWires n0 _ x0 _ x1 _ hw0.out R5.intss hl0 R7.ints hl1).mono ?_; rintro e w8 ⟨u8, rfl, R8, b8⟩
      replace R3 := R3.below b8 (by omega)
      replace R5 := R5.below b8 (by omega)
      replace R7 := R7.below b8 (by omega)
      replace ca0 := Below.keeps b8 _ _ ca0
      replace cb0 := Below.keeps b8 _ _ cb0
      replace cx4 := Below.keeps b8 _ _ cx4
      replace cy4 := Below.keeps b8 _ _ cy4
      replace cx6 := Below.keeps b8 _ _ cx6
      replace cy6 := Below.keeps b8 _ _ cy6
      have sw8 := b8.size
      replace B := B.trans (b8.mono (by omega))
      obtain ⟨p8, l8, c8, hu8⟩ := R8.shape; subst hu8
      have : w.heap.size < w8.heap.size := by omega
      have : w3.heap.size < w8.heap.size := by omega
      have : w5.heap.size < w8.heap.size := by omega
      go_wp2_with fail
      obtain ⟨w9, Hw9⟩ : ∃ W, Hid (W = w8.alloc (.cells #[.int .i64 (nbN (RnP n0 x0 x1) (n0)), (.slice p8 l8 c8)] 26)) := ⟨_, rfl⟩
      rw [← Hw9.out]
      have b9 : Below w8.heap.size w8 w9 := by rw [Hw9.out]; exact (Below.refl _ _).alloc (Nat.le_refl _) _
      replace R3 := R3.below b9 (by omega)
      replace R5 := R5.below b9 (by omega)
      replace R7 := R7.below b9 (by omega)
      replace R8 := R8.below b9 (by omega)
      replace ca0 := Below.keeps b9 _ _ ca0
      replace cb0 := Below.keeps b9 _ _ cb0
      replace cx4 := Below.keeps b9 _ _ cx4
      replace cy4 := Below.keeps b9 _ _ cy4
      replace cx6 := Below.keeps b9 _ _ cx6
      replace cy6 := Below.keeps b9 _ _ cy6
      have sw9 := b9.size
      replace B := B.trans (b9.mono (by omega))
      have cx9 : w9.cell? ⟨w8.heap.size, 0, none⟩ = some (.int .i64 (nbN (RnP n0 x0 x1) (n0))) := by rw [Hw9.out]; simp [go_sem]
      have cy9 : w9.cell? ⟨w8.heap.size, 1, none⟩ = some (.slice p8 l8 c8) := by rw [Hw9.out]; simp [go_sem]
      have z9 : w8.heap.size < w9.heap.size := by rw [Hw9.out]; simp
      clear Hw9
      refine (eqNetwork_yes _ _ _ _ _ R8.intss R3.intss).mono ?_; rintro e w10 ⟨rfl, b10⟩
      replace R3 := R3.below b10 (by omega)
      replace R5 := R5.below b10 (by omega)
      replace R7 := R7.below b10 (by omega)
      replace R8 := R8.below b10 (by omega)
      replace ca0 := Below.keeps b10 _ _ ca0
      replace cb0 := Below.keeps b10 _ _ cb0
      replace cx4 := Below.keeps b10 _ _ cx4
      replace cy4 := Below.keeps b10 _ _ cy4
      replace cx6 := Below.keeps b10 _ _ cx6
      replace cy6 := Below.keeps b10 _ _ cy6
      replace cx9 := Below.keeps b10 _ _ cx9
      replace cy9 := Below.keeps b10 _ _ cy9
      have sw10 := b10.size
      replace B := B.trans (b10.mono (by omega))
      have JX := R5.intss
      go_wp2
      go_region_held3 (fun w' => (w'.cell? ⟨w5.heap.size, 0, none⟩ = some (.int .i64 n0) ∧ w'.cell? ⟨w5.heap.size, 1, none⟩ = some (.slice p5 l5 c5) ∧ w'.cell? ⟨w.heap.size, 0, none⟩ = some (.int .i64 n0) ∧ w'.cell? ⟨w.heap.size, 1, none⟩ = some (.slice ao0 x0.length cap0)) ∧ Below w10.heap.size w10 w')
        (first | exact ⟨⟨cx6, cy6, ca0, cb0⟩, (Below.refl _ _).drew⟩ | exact held4 (by assumption) (by assumption))
        (first | (go_at_call 14; refine (toNetwork n0 _ x0 _ (I0.keep ((Below.keeps B).trans (Below.keeps (And.right (by assumption))))) hl0).mono ?_; rintro e w11a ⟨u11a, rfl, R11a, b11a⟩) | (go_at_call 16; refine (eqNetwork_yes n0 _ _ x0 _ (JX.keep (Below.keeps (And.right (by assumption)))) R11a.intss).mono ?_; rintro e w11 ⟨rfl, b11b⟩))
      have b11 : Below w10.heap.size w10 w11 := And.right (by assumption)
      clear JX
      replace R3 := R3.below b11 (by omega)
      replace R5 := R5.below b11 (by omega)
      replace R7 := R7.below b11 (by omega)
      replace R8 := R8.below b11 (by omega)
      replace ca0 := Below.keeps b11 _ _ ca0
      replace cb0 := Below.keeps b11 _ _ cb0
      replace cx4 := Below.keeps b11 _ _ cx4
      replace cy4 := Below.keeps b11 _ _ cy4
      replace cx6 := Below.keeps b11 _ _ cx6
      replace cy6 := Below.keeps b11 _ _ cy6
      replace cx9 := Below.keeps b11 _ _ cx9
      replace cy9 := Below.keeps b11 _ _ cy9
      have sw11 := b11.size
      replace B := B.trans (b11.mono (by omega))
      go_wp2_with fail
      refine (toIntS _ x1 _ (I1.keep (Below.keeps B)) hl1).mono ?_; rintro e w12 ⟨u12, rfl, R12, b12⟩
      replace R3 := R3.below b12 (by omega)
      replace R5 := R5.below b12 (by omega)
      replace R7 := R7.below b12 (by omega)
      replace R8 := R8.below b12 (by omega)
      replace ca0 := Below.keeps b12 _ _ ca0
      replace cb0 := Below.keeps b12 _ _ cb0
      replace cx4 := Below.keeps b12 _ _ cx4
      replace cy4 := Below.keeps b12 _ _ cy4
      replace cx6 := Below.keeps b12 _ _ cx6
      replace cy6 := Below.keeps b12 _ _ cy6
      replace cx9 := Below.keeps b12 _ _ cx9
      replace cy9 := Below.keeps b12 _ _ cy9
      have sw12 := b12.size
      replace B := B.trans (b12.mono (by omega))
      go_wp2_with fail
      refine (eqIntS_yes _ _ _ _ R7.ints R12.ints).mono ?_; rintro e w13 ⟨rfl, b13⟩
      replace R3 := R3.below b13 (by omega)
      replace R5 := R5.below b13 (by omega)
      replace R7 := R7.below b13 (by omega)
      replace R8 := R8.below b13 (by omega)
      replace R12 := R12.below b13 (by omega)
      replace ca0 := Below.keeps b13 _ _ ca0
      replace cb0 := Below.keeps b13 _ _ cb0
      replace cx4 := Below.keeps b13 _ _ cx4
      replace cy4 := Below.keeps b13 _ _ cy4
      replace cx6 := Below.keeps b13 _ _ cx6
      replace cy6 := Below.keeps b13 _ _ cy6
      replace cx9 := Below.keeps b13 _ _ cx9
      replace cy9 := Below.keeps b13 _ _ cy9
      have sw13 := b13.size
      replace B := B.trans (b13.mono (by omega))
      clear R12
      go_wp2_with fail
      refine (markNetwork _ _ _ _ (x0) ((1 : Int)) _ R5 (by omega) (by omega) (by omega)).mono ?_; rintro e w14 ⟨rfl, R5, c14⟩
      replace R3 := R3.chg c14 (by omega)
      replace R7 := R7.chg c14 (by omega)
      replace R8 := R8.chg c14 (by omega)
      replace ca0 := chg_cell c14 (by omega) ca0
      replace cb0 := chg_cell c14 (by omega) cb0
      replace cx4 := chg_cell c14 (by omega) cx4
      replace cy4 := chg_cell c14 (by omega) cy4
      replace cx6 := chg_cell c14 (by omega) cx6
      replace cy6 := chg_cell c14 (by omega) cy6
      replace cx9 := chg_cell c14 (by omega) cx9
      replace cy9 := chg_cell c14 (by omega) cy9
      have sw14 := c14.size
      replace B := B.trans (c14.below (by omega) (by omega))
      clear R5
      go_wp2_with fail
      refine (markIntS _ _ _ (x1) (((1 : Int) + (sumLen (x0) : Int))) _ R7 (by omega) (by omega)).mono ?_; rintro e w15 ⟨rfl, R7, c15⟩
      replace R3 := R3.chg c15 (by omega)
      replace R8 := R8.chg c15 (by omega)
      replace ca0 := chg_cell c15 (by omega) ca0
      replace cb0 := chg_cell c15 (by omega) cb0
      replace cx4 := chg_cell c15 (by omega) cx4
      replace cy4 := chg_cell c15 (by omega) cy4
      replace cx6 := chg_cell c15 (by omega) cx6
      replace cy6 := chg_cell c15 (by omega) cy6
      replace cx9 := chg_cell c15 (by omega) cx9
      replace cy9 := chg_cell c15 (by omega) cy9
      have sw15 := c15.size
      replace B := B.trans (c15.below (by omega) (by omega))
      clear R7
      have hk : decide ((((1 : Int) + (sumLen (x0) : Int)) + ((x1).length : Int)) < 0) = false := decide_eq_false (by omega)
      go_wp2_with fail
      refine (eqNetwork_yes _ _ _ _ _ R8.intss R3.intss).mono ?_; rintro e w16 ⟨rfl, b16⟩
      replace R3 := R3.below b16 (by omega)
      replace R8 := R8.below b16 (by omega)
      replace ca0 := Below.keeps b16 _ _ ca0
      replace cb0 := Below.keeps b16 _ _ cb0
      replace cx4 := Below.keeps b16 _ _ cx4
      replace cy4 := Below.keeps b16 _ _ cy4
      replace cx6 := Below.keeps b16 _ _ cx6
      replace cy6 := Below.keeps b16 _ _ cy6
      replace cx9 := Below.keeps b16 _ _ cx9
      replace cy9 := Below.keeps b16 _ _ cy9
      have sw16 := b16.size
      replace B := B.trans (b16.mono (by omega))
      go_wp2_with fail
      refine (markNetwork _ _ _ _ (nbR (RnP n0 x0 x1) (rnL x0 x1)) ((1 : Int)) _ R8 (by omega) (by omega) (by omega)).mono ?_; rintro e w17 ⟨rfl, R8, c17⟩
      replace R3 := R3.chg c17 (by omega)
      replace ca0 := chg_cell c17 (by omega) ca0
      replace cb0 := chg_cell c17 (by omega) cb0
      replace cx4 := chg_cell c17 (by omega) cx4
      replace cy4 := chg_cell c17 (by omega) cy4
      replace cx6 := chg_cell c17 (by omega) cx6
      replace cy6 := chg_cell c17 (by omega) cy6
      replace cx9 := chg_cell c17 (by omega) cx9
      replace cy9 := chg_cell c17 (by omega) cy9
      have sw17 := c17.size
      replace B := B.trans (c17.below (by omega) (by omega))
      go_wp2_with fail
      refine (heldNetwork _ _ (nbR (RnP n0 x0 x1) (rnL x0 x1)) ((1 : Int)) _ R8.intss (by omega) (by omega)).mono ?_; rintro e w18 ⟨rfl, b18⟩
      replace R3 := R3.below b18 (by omega)
      replace R8 := R8.below b18 (by omega)
      replace ca0 := Below.keeps b18 _ _ ca0
      replace cb0 := Below.keeps b18 _ _ cb0
      replace cx4 := Below.keeps b18 _ _ cx4
      replace cy4 := Below.keeps b18 _ _ cy4
      replace cx6 := Below.keeps b18 _ _ cx6
      replace cy6 := Below.keeps b18 _ _ cy6
      replace cx9 := Below.keeps b18 _ _ cx9
      replace cy9 := Below.keeps b18 _ _ cy9
      have sw18 := b18.size
      replace B := B.trans (b18.mono (by omega))
      have hqm : (((1 : Int) + (sumLen (nbR (RnP n0 x0 x1) (rnL x0 x1)) : Int)) != ((1 : Int) + (sumLen (nbR (RnP n0 x0 x1) (rnL x0 x1)) : Int))) = false := by simp
      go_wp2_with fail
      refine (toNetwork n0 _ x0 _ (I0.keep (Below.keeps B)) hl0).mono ?_; rintro e w19 ⟨u19, rfl, R19, b19⟩
      obtain ⟨p19, l19, c19, hu19⟩ := R19.shape; subst hu19
      replace R3 := R3.below b19 (by omega)
      replace R8 := R8.below b19 (by omega)
      replace ca0 := Below.keeps b19 _ _ ca0
      replace cb0 := Below.keeps b19 _ _ cb0
      replace cx4 := Below.keeps b19 _ _ cx4
      replace cy4 := Below.keeps b19 _ _ cy4
      replace cx6 := Below.keeps b19 _ _ cx6
      replace cy6 := Below.keeps b19 _ _ cy6
      replace cx9 := Below.keeps b19 _ _ cx9
      replace cy9 := Below.keeps b19 _ _ cy9
      have sw19 := b19.size
      replace B := B.trans (b19.mono (by omega))
      go_wp2_with fail
      refine (toIntS _ x1 _ (I1.keep (Below.keeps B)) hl1).mono ?_; rintro e w20 ⟨u20, rfl, R20, b20⟩
      replace R3 := R3.below b20 (by omega)
      replace R8 := R8.below b20 (by omega)
      replace R19 := R19.below b20 (by omega)
      replace ca0 := Below.keeps b20 _ _ ca0
      replace cb0 := Below.keeps b20 _ _ cb0
      replace cx4 := Below.keeps b20 _ _ cx4
      replace cy4 := Below.keeps b20 _ _ cy4
      replace cx6 := Below.keeps b20 _ _ cx6
      replace cy6 := Below.keeps b20 _ _ cy6
      replace cx9 := Below.keeps b20 _ _ cx9
      replace cy9 := Below.keeps b20 _ _ cy9
      have sw20 := b20.size
      replace B := B.trans (b20.mono (by omega))
      go_wp2_with fail
      refine (implRenameWires n0 _ x0 _ x1 _ hw0.out R19.intss hl0 R20.ints hl1).mono ?_; rintro e w21 ⟨u21, rfl, R21, b21⟩
      replace R3 := R3.below b21 (by omega)
      replace R8 := R8.below b21 (by omega)
      replace R19 := R19.below b21 (by omega)
      replace R20 := R20.below b21 (by omega)
      replace ca0 := Below.keeps b21 _ _ ca0
      replace cb0 := Below.keeps b21 _ _ cb0
      replace cx4 := Below.keeps b21 _ _ cx4
      replace cy4 := Below.keeps b21 _ _ cy4
      replace cx6 := Below.keeps b21 _ _ cx6
      replace cy6 := Below.keeps b21 _ _ cy6
      replace cx9 := Below.keeps b21 _ _ cx9
      replace cy9 := Below.keeps b21 _ _ cy9
      have sw21 := b21.size
      replace B := B.trans (b21.mono (by omega))
      obtain ⟨p21, l21, c21, hu21⟩ := R21.shape; subst hu21
      clear R19
      clear R20
      have : w.heap.size < w21.heap.size := by omega
      have : w3.heap.size < w21.heap.size := by omega
      have : w5.heap.size < w21.heap.size := by omega
      have : w8.heap.size < w21.heap.size := by omega
      go_wp2_with fail
      obtain ⟨w22, Hw22⟩ : ∃ W, Hid (W = w21.alloc (.cells #[.int .i64 (nbN (RnP n0 x0 x1) (n0)), (.slice p21 l21 c21)] 26)) := ⟨_, rfl⟩
      rw [← Hw22.out]
      have b22 : Below w21.heap.size w21 w22 := by rw [Hw22.out]; exact (Below.refl _ _).alloc (Nat.le_refl _) _
      replace R3 := R3.below b22 (by omega)
      replace R8 := R8.below b22 (by omega)
      replace R21 := R21.below b22 (by omega)
      replace ca0 := Below.keeps b22 _ _ ca0
      replace cb0 := Below.keeps b22 _ _ cb0
      replace cx4 := Below.keeps b22 _ _ cx4
      replace cy4 := Below.keeps b22 _ _ cy4
      replace cx6 := Below.keeps b22 _ _ cx6
      replace cy6 := Below.keeps b22 _ _ cy6
      replace cx9 := Below.keeps b22 _ _ cx9
      replace cy9 := Below.keeps b22 _ _ cy9
      have sw22 := b22.size
      replace B := B.trans (b22.mono (by omega))
      have cx22 : w22.cell? ⟨w21.heap.size, 0, none⟩ = some (.int .i64 (nbN (RnP n0 x0 x1) (n0))) := by rw [Hw22.out]; simp [go_sem]
      have cy22 : w22.cell? ⟨w21.heap.size, 1, none⟩ = some (.slice p21 l21 c21) := by rw [Hw22.out]; simp [go_sem]
      have z22 : w21.heap.size < w22.heap.size := by rw [Hw22.out]; simp
      clear Hw22
      refine (eqNetwork_yes _ _ _ _ _ R21.intss R3.intss).mono ?_; rintro e w23 ⟨rfl, b23⟩
      replace R3 := R3.below b23 (by omega)
      replace R8 := R8.below b23 (by omega)
      replace R21 := R21.below b23 (by omega)
      replace ca0 := Below.keeps b23 _ _ ca0
      replace cb0 := Below.keeps b23 _ _ cb0
      replace cx4 := Below.keeps b23 _ _ cx4
      replace cy4 := Below.keeps b23 _ _ cy4
      replace cx6 := Below.keeps b23 _ _ cx6
      replace cy6 := Below.keeps b23 _ _ cy6
      replace cx9 := Below.keeps b23 _ _ cx9
      replace cy9 := Below.keeps b23 _ _ cy9
      replace cx22 := Below.keeps b23 _ _ cx22
      replace cy22 := Below.keeps b23 _ _ cy22
      have sw23 := b23.size
      replace B := B.trans (b23.mono (by omega))
      go_wp2_with fail
      refine (heldNetwork _ _ (nbR (RnP n0 x0 x1) (rnL x0 x1)) ((1 : Int)) _ R8.intss (by omega) (by omega)).mono ?_; rintro e w24 ⟨rfl, b24⟩
      replace R3 := R3.below b24 (by omega)
      replace R8 := R8.below b24 (by omega)
      replace R21 := R21.below b24 (by omega)
      replace ca0 := Below.keeps b24 _ _ ca0
      replace cb0 := Below.keeps b24 _ _ cb0
      replace cx4 := Below.keeps b24 _ _ cx4
      replace cy4 := Below.keeps b24 _ _ cy4
      replace cx6 := Below.keeps b24 _ _ cx6
      replace cy6 := Below.keeps b24 _ _ cy6
      replace cx9 := Below.keeps b24 _ _ cx9
      replace cy9 := Below.keeps b24 _ _ cy9
      replace cx22 := Below.keeps b24 _ _ cx22
      replace cy22 := Below.keeps b24 _ _ cy22
      have sw24 := b24.size
      replace B := B.trans (b24.mono (by omega))
      have hqm : (((1 : Int) + (sumLen (nbR (RnP n0 x0 x1) (rnL x0 x1)) : Int)) != ((1 : Int) + (sumLen (nbR (RnP n0 x0 x1) (rnL x0 x1)) : Int))) = false := by simp
      have BE := BB.trans (B.mono BB.size)
      go_wp2
      go_ret
      exact ⟨rfl, BE⟩
    · skip
      have hs0 : szSS x0 1048576 < 0 := by unfold szSS szI; rw [if_neg hg0]; omega
      go_enter Try.func10, Try.ntmps10
      have B : Below W0.heap.size W0 W0 := Below.refl _ _
      go_wp2_with fail
      rw [← HW0.out]
      refine (szNetwork n0 _ x0 1048576 _ (I0.keep (Below.keeps B)) (by omega) (by omega)).mono ?_; rintro e w1 ⟨rfl, b1⟩
      have ca0 := Below.keeps b1 _ _ ca0
      have cb0 := Below.keeps b1 _ _ cb0
      have B := B.trans (b1.mono (by omega)); have sw1 := b1.size
      have BE := BB.trans (B.mono BB.size)
      go_wp2
      go_ret
      exact ⟨rfl, BE⟩
  · skip
    go_enter Try.func10, Try.ntmps10
    go_wp2
    go_ret
    first | exact ⟨rfl, ((Below.refl _ _).alloc (by simp) _)⟩ | exact ⟨rfl, BB⟩


set_option maxRecDepth 100000 in
theorem lifted (os : Os) (started : os.Started) (H : Type) (enc : TypeId × Value → H) :
    ReturnsInHanded {} Try.checked os 10 .any (Rows.fnExactRenameWiresSpec.pre6 enc Try.prog Try.f10 Rows.fnExactRenameWiresRow.domain false) (Rows.fnExactRenameWiresSpec.post enc Try.prog Try.f10 false true false false) := by
  refine returnsInHanded_of_change (C := Try.checked) own started (by kernel_rfl) Try.func10
    (ChangeSpec.witness6 (enc := enc) (C := Try.checked) false ⟨#[], #[.agg #[.int .i64 0, .slice none 0 0], .slice none 0 0], []⟩ 8 (by kernel_rfl) (by kernel_rfl) (by kernel_rfl) (by kernel_rfl)) ?_
  intro W base args ds gs before hval0 hW hcnd _
  have hval : ∀ (j : Nat) t v, Try.f10.params[j]? = some t → args[j]? = some v → Value.okWide Try.prog W .any base t v := hval0
  have hW' := hW
  obtain ⟨p, q, hA0, hV, rfl, hfz, hnd⟩ := hW
  have hA : DataW.TrodAll enc Try.prog W 0 (fun _ => true) true Try.f10.params.toList args.toList ds p := hA0
  rw [Try.params10] at hA hval
  obtain ⟨v0, vs0, d0, ds0, p0, q0, hargs, rfl, rfl, h0, r0⟩ := trodAll_cons hA
  obtain ⟨v1, vs1, d1, ds1, p1, q1, rfl, rfl, rfl, h1, r1⟩ := trodAll_cons r0
  obtain ⟨rfl, rfl, rfl⟩ := trodAll_nil r1
  obtain rfl : args = #[v0, v1] := by cases args; simp_all
  obtain ⟨rfl, rfl⟩ := trodVars_none hV
  have k0 := h0
  have lt0 : ∀ x ∈ p0, x.block < W.heap.size := by obtain ⟨m, hm⟩ := k0; exact DataW.trod_lt m _ _ _ hm
  obtain ⟨n0, u0, x0, rfl, w0, z0⟩ := openNet (hval 0 24 v0 rfl rfl) h0
  have k1 := h1
  have lt1 : ∀ x ∈ p1, x.block < W.heap.size := by obtain ⟨m, hm⟩ := k1; exact DataW.trod_lt m _ _ _ hm
  obtain ⟨x1, w1⟩ := Ints.of_trod Try.underlying38 Try.underlying3 cellsInt (hval 1 38 v1 rfl rfl) h1
  clear hA0 hval0
  refine (law n0 u0 x0 v1 x1 W w0 z0 w1).mono fun e W' ⟨he, bel⟩ => ?_
  subst he
  exact ⟨_, rfl, _, _, _, [], _, [], hW', trodAll_mk1 (shut_bool Try.underlying4 _), (trodAll_cons_mk (Below.trod laidOut (by kernel_rfl) (of_decide_eq_true (by kernel_rfl)) k0 bel lt0) (trodAll_cons_mk (Below.trod laidOut (by kernel_rfl) (of_decide_eq_true (by kernel_rfl)) k1 bel lt1) trodAll_mk0)), rfl, bel.frame _, fun h => by cases h⟩

theorem band {a b : Bool} (h1 : a = true) (h2 : b = true) : (a && b) = true := by subst h1; subst h2; rfl
set_option maxHeartbeats 4000000 in
/-- The closed facts of the program, each checked by itself. -/
theorem joined : joinedFacts Try.prog 10 Try.f10 Rows.fnExactRenameWiresSpec Rows.fnExactRenameWiresRow = true := by
  unfold joinedFacts
  repeat' (with_reducible apply band)
  all_goals (as_aux_lemma => kernel_rfl)

theorem over : Rows.fnExactRenameWiresRow.holds Try.pinned (OpenSpec.ofChange Rows.fnExactRenameWiresSpec) :=
  OpenClaim.holds_of_wide 10 Try.f10 rfl rfl rfl rfl rfl rfl rfl ⟨rfl, rfl, rfl, rfl, rfl⟩ rfl rfl rfl rfl rfl (by as_aux_lemma => kernel_rfl) Try.func10 joined
    (of_decide_eq_true (by as_aux_lemma => kernel_rfl)) (by unfold Func.isWrapper; first | (rw [if_pos (by decide +kernel)]; kernel_rfl) | (rw [if_neg (by decide +kernel)]; exact ⟨rfl, rfl⟩))
    (fun os started H enc _ => lifted os started H enc)

theorem proved : Rows.FnExactRenameWiresSaid := over
end Go.Proofs.Ytelilimkcboioaa.fnExactRenameWires
