/- The statement FnExactByLevels: the law returns true for every input, and every input reads behind the call as it read before. No condition. -/
import Derived.Test.YthcnmaapcniehaaRows
import Derived.Test.YthcnmaapcniehaaByS
import Derived.Test.YthcnmaapcniehaaByI
import Derived.Test.YthcnmaapcniehaaNetB
import Derived.Test.YthcnmaapcniehaaMark
import Derived.Test.YthcnmaapcniehaaOpenNet
namespace Go.Proofs.Ythcnmaapcniehaa.fnExactByLevels
open Go.ChangeShapes Go.WideShapes Go.ChangeAt Go.RowKit Go.Proofs.Ythcnmaapcniehaa
open Go.ChangeMaps (open_string shut_string)
set_option linter.unusedVariables false

set_option maxHeartbeats 4000000 in
set_option maxRecDepth 100000 in
theorem law (n0 : Int) (v0 : Value) (x0 : List (List Int)) (w : World) (h0 : (Lit.int .i64 n0).wf = true) (I0 : IntSS w v0 x0) :
    Calls Try.prog 3 #[.agg #[.int .i64 n0, v0]] w fun e w' => e = .returned (.bool true) ∧ Below w.heap.size w w' := by
  obtain ⟨ao0, cap0, hv0, hcap0, hmax0, hnil0, hcell0⟩ := id I0
  clear hnil0 hcell0
  unfold maxLen at hmax0
  have hw0 := Lib.hid h0; clear h0
  have hd0 := by_le n0 x0
  have hb0 : (tf (NetP n0 x0) != tf (NetP n0 x0)) = false := by simp
  obtain ⟨W0, HW0⟩ : ∃ W0, Hid (W0 = (w.alloc (.cells #[.int .i64 n0, v0] 24))) := ⟨_, rfl⟩
  have BB : Below w.heap.size w W0 := by rw [HW0.out]; exact ((Below.refl _ _).alloc (by simp) _)
  have ca0 : W0.cell? ⟨w.heap.size, 0, none⟩ = some (.int .i64 n0) := by rw [HW0.out]; simp [go_sem]
  have cb0 : W0.cell? ⟨w.heap.size, 1, none⟩ = some v0 := by rw [HW0.out]; simp [go_sem]
  have za : w.heap.size + 1 ≤ W0.heap.size := by rw [HW0.out]; simp
  have I0 := I0.keep (Below.keeps BB)
  subst hv0
  by_cases hg0 : ((x0.length + sumLen x0 : Nat) : Int) ≤ 1048576
  · skip
    have hs0 : 0 ≤ szSS x0 1048576 ∧ szSS x0 1048576 ≤ 1048576 := by unfold szSS szI; rw [if_pos hg0]; omega
    have ht0 := hs0.1; have hu0 := hs0.2; clear hs0
    have hl0 : x0.length + sumLen x0 ≤ 1048576 := by omega
    have hq0 : decide ((szSS x0 1048576) < 0) = false := decide_eq_false (by omega)
    go_enter Try.func3, Try.ntmps3
    have B : Below W0.heap.size W0 W0 := Below.refl _ _
    go_wp2_with fail
    rw [← HW0.out]
    refine (szNetwork n0 _ x0 1048576 _ (I0.keep (Below.keeps B)) (by omega) (by omega)).mono ?_; rintro e wz0 ⟨rfl, bz0⟩
    have ca0 := Below.keeps bz0 _ _ ca0
    have cb0 := Below.keeps bz0 _ _ cb0
    have swz0 := bz0.size; have B := B.trans (bz0.mono (by omega))
    go_wp2_with fail
    refine (toNetwork n0 _ x0 _ (I0.keep (Below.keeps B)) hl0).mono ?_; rintro e w1 ⟨u1, rfl, R1, b1⟩
    obtain ⟨p1, l1, c1, hu1⟩ := R1.shape; subst hu1
    replace ca0 := Below.keeps b1 _ _ ca0
    replace cb0 := Below.keeps b1 _ _ cb0
    have sw1 := b1.size
    replace B := B.trans (b1.mono (by omega))
    go_wp2_with fail
    refine (specByLevels n0 _ x0 _ hw0.out R1.intss hl0).mono ?_; rintro e w2 ⟨u2, rfl, R2, b2⟩
    replace R1 := R1.below b2 (by omega)
    replace ca0 := Below.keeps b2 _ _ ca0
    replace cb0 := Below.keeps b2 _ _ cb0
    have sw2 := b2.size
    replace B := B.trans (b2.mono (by omega))
    obtain ⟨p2, l2, c2, hu2⟩ := R2.shape; subst hu2
    clear R1
    have : w.heap.size < w2.heap.size := by omega
    go_wp2_with fail
    obtain ⟨w3, Hw3⟩ : ∃ W, Hid (W = w2.alloc (.cells #[.int .i64 (nbN (NetP n0 x0) (n0)), (.slice p2 l2 c2)] 26)) := ⟨_, rfl⟩
    rw [← Hw3.out]
    have b3 : Below w2.heap.size w2 w3 := by rw [Hw3.out]; exact (Below.refl _ _).alloc (Nat.le_refl _) _
    replace R2 := R2.below b3 (by omega)
    replace ca0 := Below.keeps b3 _ _ ca0
    replace cb0 := Below.keeps b3 _ _ cb0
    have sw3 := b3.size
    replace B := B.trans (b3.mono (by omega))
    have cx3 : w3.cell? ⟨w2.heap.size, 0, none⟩ = some (.int .i64 (nbN (NetP n0 x0) (n0))) := by rw [Hw3.out]; simp [go_sem]
    have cy3 : w3.cell? ⟨w2.heap.size, 1, none⟩ = some (.slice p2 l2 c2) := by rw [Hw3.out]; simp [go_sem]
    have z3 : w2.heap.size < w3.heap.size := by rw [Hw3.out]; simp
    clear Hw3
    refine (toNetwork n0 _ x0 _ (I0.keep (Below.keeps B)) hl0).mono ?_; rintro e w4 ⟨u4, rfl, R4, b4⟩
    obtain ⟨p4, l4, c4, hu4⟩ := R4.shape; subst hu4
    replace R2 := R2.below b4 (by omega)
    replace ca0 := Below.keeps b4 _ _ ca0
    replace cb0 := Below.keeps b4 _ _ cb0
    replace cx3 := Below.keeps b4 _ _ cx3
    replace cy3 := Below.keeps b4 _ _ cy3
    have sw4 := b4.size
    replace B := B.trans (b4.mono (by omega))
    have : w.heap.size < w4.heap.size := by omega
    have : w2.heap.size < w4.heap.size := by omega
    go_wp2_with fail
    obtain ⟨w5, Hw5⟩ : ∃ W, Hid (W = w4.alloc (.cells #[.int .i64 n0, (.slice p4 l4 c4)] 26)) := ⟨_, rfl⟩
    rw [← Hw5.out]
    have b5 : Below w4.heap.size w4 w5 := by rw [Hw5.out]; exact (Below.refl _ _).alloc (Nat.le_refl _) _
    replace R2 := R2.below b5 (by omega)
    replace R4 := R4.below b5 (by omega)
    replace ca0 := Below.keeps b5 _ _ ca0
    replace cb0 := Below.keeps b5 _ _ cb0
    replace cx3 := Below.keeps b5 _ _ cx3
    replace cy3 := Below.keeps b5 _ _ cy3
    have sw5 := b5.size
    replace B := B.trans (b5.mono (by omega))
    have cx5 : w5.cell? ⟨w4.heap.size, 0, none⟩ = some (.int .i64 n0) := by rw [Hw5.out]; simp [go_sem]
    have cy5 : w5.cell? ⟨w4.heap.size, 1, none⟩ = some (.slice p4 l4 c4) := by rw [Hw5.out]; simp [go_sem]
    have z5 : w4.heap.size < w5.heap.size := by rw [Hw5.out]; simp
    clear Hw5
    refine (implByLevels n0 _ x0 _ hw0.out R4.intss hl0).mono ?_; rintro e w6 ⟨u6, rfl, R6, b6⟩
    replace R2 := R2.below b6 (by omega)
    replace R4 := R4.below b6 (by omega)
    replace ca0 := Below.keeps b6 _ _ ca0
    replace cb0 := Below.keeps b6 _ _ cb0
    replace cx3 := Below.keeps b6 _ _ cx3
    replace cy3 := Below.keeps b6 _ _ cy3
    replace cx5 := Below.keeps b6 _ _ cx5
    replace cy5 := Below.keeps b6 _ _ cy5
    have sw6 := b6.size
    replace B := B.trans (b6.mono (by omega))
    obtain ⟨p6, l6, c6, hu6⟩ := R6.shape; subst hu6
    have : w.heap.size < w6.heap.size := by omega
    have : w2.heap.size < w6.heap.size := by omega
    have : w4.heap.size < w6.heap.size := by omega
    go_wp2_with fail
    obtain ⟨w7, Hw7⟩ : ∃ W, Hid (W = w6.alloc (.cells #[.int .i64 (nbN (NetP n0 x0) (n0)), (.slice p6 l6 c6)] 26)) := ⟨_, rfl⟩
    rw [← Hw7.out]
    have b7 : Below w6.heap.size w6 w7 := by rw [Hw7.out]; exact (Below.refl _ _).alloc (Nat.le_refl _) _
    replace R2 := R2.below b7 (by omega)
    replace R4 := R4.below b7 (by omega)
    replace R6 := R6.below b7 (by omega)
    replace ca0 := Below.keeps b7 _ _ ca0
    replace cb0 := Below.keeps b7 _ _ cb0
    replace cx3 := Below.keeps b7 _ _ cx3
    replace cy3 := Below.keeps b7 _ _ cy3
    replace cx5 := Below.keeps b7 _ _ cx5
    replace cy5 := Below.keeps b7 _ _ cy5
    have sw7 := b7.size
    replace B := B.trans (b7.mono (by omega))
    have cx7 : w7.cell? ⟨w6.heap.size, 0, none⟩ = some (.int .i64 (nbN (NetP n0 x0) (n0))) := by rw [Hw7.out]; simp [go_sem]
    have cy7 : w7.cell? ⟨w6.heap.size, 1, none⟩ = some (.slice p6 l6 c6) := by rw [Hw7.out]; simp [go_sem]
    have z7 : w6.heap.size < w7.heap.size := by rw [Hw7.out]; simp
    clear Hw7
    refine (eqNetwork_yes _ _ _ _ _ R6.intss R2.intss).mono ?_; rintro e w8 ⟨rfl, b8⟩
    replace R2 := R2.below b8 (by omega)
    replace R4 := R4.below b8 (by omega)
    replace R6 := R6.below b8 (by omega)
    replace ca0 := Below.keeps b8 _ _ ca0
    replace cb0 := Below.keeps b8 _ _ cb0
    replace cx3 := Below.keeps b8 _ _ cx3
    replace cy3 := Below.keeps b8 _ _ cy3
    replace cx5 := Below.keeps b8 _ _ cx5
    replace cy5 := Below.keeps b8 _ _ cy5
    replace cx7 := Below.keeps b8 _ _ cx7
    replace cy7 := Below.keeps b8 _ _ cy7
    have sw8 := b8.size
    replace B := B.trans (b8.mono (by omega))
    have JX := R4.intss
    go_wp2
    go_region_held3 (fun w' => (w'.cell? ⟨w4.heap.size, 0, none⟩ = some (.int .i64 n0) ∧ w'.cell? ⟨w4.heap.size, 1, none⟩ = some (.slice p4 l4 c4) ∧ w'.cell? ⟨w.heap.size, 0, none⟩ = some (.int .i64 n0) ∧ w'.cell? ⟨w.heap.size, 1, none⟩ = some (.slice ao0 x0.length cap0)) ∧ Below w8.heap.size w8 w')
      (first | exact ⟨⟨cx5, cy5, ca0, cb0⟩, (Below.refl _ _).drew⟩ | exact held4 (by assumption) (by assumption))
      (first | (go_at_call 6; refine (toNetwork n0 _ x0 _ (I0.keep ((Below.keeps B).trans (Below.keeps (And.right (by assumption))))) hl0).mono ?_; rintro e w9a ⟨u9a, rfl, R9a, b9a⟩) | (go_at_call 8; refine (eqNetwork_yes n0 _ _ x0 _ (JX.keep (Below.keeps (And.right (by assumption)))) R9a.intss).mono ?_; rintro e w9 ⟨rfl, b9b⟩))
    have b9 : Below w8.heap.size w8 w9 := And.right (by assumption)
    clear JX
    replace R2 := R2.below b9 (by omega)
    replace R4 := R4.below b9 (by omega)
    replace R6 := R6.below b9 (by omega)
    replace ca0 := Below.keeps b9 _ _ ca0
    replace cb0 := Below.keeps b9 _ _ cb0
    replace cx3 := Below.keeps b9 _ _ cx3
    replace cy3 := Below.keeps b9 _ _ cy3
    replace cx5 := Below.keeps b9 _ _ cx5
    replace cy5 := Below.keeps b9 _ _ cy5
    replace cx7 := Below.keeps b9 _ _ cx7
    replace cy7 := Below.keeps b9 _ _ cy7
    have sw9 := b9.size
    replace B := B.trans (b9.mono (by omega))
    go_wp2_with fail
    refine (markNetwork _ _ _ _ (x0) ((1 : Int)) _ R4 (by omega) (by omega) (by omega)).mono ?_; rintro e w10 ⟨rfl, R4, c10⟩
    replace R2 := R2.chg c10 (by omega)
    replace R6 := R6.chg c10 (by omega)
    replace ca0 := chg_cell c10 (by omega) ca0
    replace cb0 := chg_cell c10 (by omega) cb0
    replace cx3 := chg_cell c10 (by omega) cx3
    replace cy3 := chg_cell c10 (by omega) cy3
    replace cx5 := chg_cell c10 (by omega) cx5
    replace cy5 := chg_cell c10 (by omega) cy5
    replace cx7 := chg_cell c10 (by omega) cx7
    replace cy7 := chg_cell c10 (by omega) cy7
    have sw10 := c10.size
    replace B := B.trans (c10.below (by omega) (by omega))
    clear R4
    have hk : decide (((1 : Int) + (sumLen (x0) : Int)) < 0) = false := decide_eq_false (by omega)
    go_wp2_with fail
    refine (eqNetwork_yes _ _ _ _ _ R6.intss R2.intss).mono ?_; rintro e w11 ⟨rfl, b11⟩
    replace R2 := R2.below b11 (by omega)
    replace R6 := R6.below b11 (by omega)
    replace ca0 := Below.keeps b11 _ _ ca0
    replace cb0 := Below.keeps b11 _ _ cb0
    replace cx3 := Below.keeps b11 _ _ cx3
    replace cy3 := Below.keeps b11 _ _ cy3
    replace cx5 := Below.keeps b11 _ _ cx5
    replace cy5 := Below.keeps b11 _ _ cy5
    replace cx7 := Below.keeps b11 _ _ cx7
    replace cy7 := Below.keeps b11 _ _ cy7
    have sw11 := b11.size
    replace B := B.trans (b11.mono (by omega))
    go_wp2_with fail
    refine (markNetwork _ _ _ _ (nbR (NetP n0 x0) (byR n0 x0)) ((1 : Int)) _ R6 (by omega) (by omega) (by omega)).mono ?_; rintro e w12 ⟨rfl, R6, c12⟩
    replace R2 := R2.chg c12 (by omega)
    replace ca0 := chg_cell c12 (by omega) ca0
    replace cb0 := chg_cell c12 (by omega) cb0
    replace cx3 := chg_cell c12 (by omega) cx3
    replace cy3 := chg_cell c12 (by omega) cy3
    replace cx5 := chg_cell c12 (by omega) cx5
    replace cy5 := chg_cell c12 (by omega) cy5
    replace cx7 := chg_cell c12 (by omega) cx7
    replace cy7 := chg_cell c12 (by omega) cy7
    have sw12 := c12.size
    replace B := B.trans (c12.below (by omega) (by omega))
    go_wp2_with fail
    refine (heldNetwork _ _ (nbR (NetP n0 x0) (byR n0 x0)) ((1 : Int)) _ R6.intss (by omega) (by omega)).mono ?_; rintro e w13 ⟨rfl, b13⟩
    replace R2 := R2.below b13 (by omega)
    replace R6 := R6.below b13 (by omega)
    replace ca0 := Below.keeps b13 _ _ ca0
    replace cb0 := Below.keeps b13 _ _ cb0
    replace cx3 := Below.keeps b13 _ _ cx3
    replace cy3 := Below.keeps b13 _ _ cy3
    replace cx5 := Below.keeps b13 _ _ cx5
    replace cy5 := Below.keeps b13 _ _ cy5
    replace cx7 := Below.keeps b13 _ _ cx7
    replace cy7 := Below.keeps b13 _ _ cy7
    have sw13 := b13.size
    replace B := B.trans (b13.mono (by omega))
    have hqm : (((1 : Int) + (sumLen (nbR (NetP n0 x0) (byR n0 x0)) : Int)) != ((1 : Int) + (sumLen (nbR (NetP n0 x0) (byR n0 x0)) : Int))) = false := by simp
    go_wp2_with fail
    refine (toNetwork n0 _ x0 _ (I0.keep (Below.keeps B)) hl0).mono ?_; rintro e w14 ⟨u14, rfl, R14, b14⟩
    obtain ⟨p14, l14, c14, hu14⟩ := R14.shape; subst hu14
    replace R2 := R2.below b14 (by omega)
    replace R6 := R6.below b14 (by omega)
    replace ca0 := Below.keeps b14 _ _ ca0
    replace cb0 := Below.keeps b14 _ _ cb0
    replace cx3 := Below.keeps b14 _ _ cx3
    replace cy3 := Below.keeps b14 _ _ cy3
    replace cx5 := Below.keeps b14 _ _ cx5
    replace cy5 := Below.keeps b14 _ _ cy5
    replace cx7 := Below.keeps b14 _ _ cx7
    replace cy7 := Below.keeps b14 _ _ cy7
    have sw14 := b14.size
    replace B := B.trans (b14.mono (by omega))
    go_wp2_with fail
    refine (implByLevels n0 _ x0 _ hw0.out R14.intss hl0).mono ?_; rintro e w15 ⟨u15, rfl, R15, b15⟩
    replace R2 := R2.below b15 (by omega)
    replace R6 := R6.below b15 (by omega)
    replace R14 := R14.below b15 (by omega)
    replace ca0 := Below.keeps b15 _ _ ca0
    replace cb0 := Below.keeps b15 _ _ cb0
    replace cx3 := Below.keeps b15 _ _ cx3
    replace cy3 := Below.keeps b15 _ _ cy3
    replace cx5 := Below.keeps b15 _ _ cx5
    replace cy5 := Below.keeps b15 _ _ cy5
    replace cx7 := Below.keeps b15 _ _ cx7
    replace cy7 := Below.keeps b15 _ _ cy7
    have sw15 := b15.size
    replace B := B.trans (b15.mono (by omega))
    obtain ⟨p15, l15, c15, hu15⟩ := R15.shape; subst hu15
    clear R14
    have : w.heap.size < w15.heap.size := by omega
    have : w2.heap.size < w15.heap.size := by omega
    have : w4.heap.size < w15.heap.size := by omega
    have : w6.heap.size < w15.heap.size := by omega
    go_wp2_with fail
    obtain ⟨w16, Hw16⟩ : ∃ W, Hid (W = w15.alloc (.cells #[.int .i64 (nbN (NetP n0 x0) (n0)), (.slice p15 l15 c15)] 26)) := ⟨_, rfl⟩
    rw [← Hw16.out]
    have b16 : Below w15.heap.size w15 w16 := by rw [Hw16.out]; exact (Below.refl _ _).alloc (Nat.le_refl _) _
    replace R2 := R2.below b16 (by omega)
    replace R6 := R6.below b16 (by omega)
    replace R15 := R15.below b16 (by omega)
    replace ca0 := Below.keeps b16 _ _ ca0
    replace cb0 := Below.keeps b16 _ _ cb0
    replace cx3 := Below.keeps b16 _ _ cx3
    replace cy3 := Below.keeps b16 _ _ cy3
    replace cx5 := Below.keeps b16 _ _ cx5
    replace cy5 := Below.keeps b16 _ _ cy5
    replace cx7 := Below.keeps b16 _ _ cx7
    replace cy7 := Below.keeps b16 _ _ cy7
    have sw16 := b16.size
    replace B := B.trans (b16.mono (by omega))
    have cx16 : w16.cell? ⟨w15.heap.size, 0, none⟩ = some (.int .i64 (nbN (NetP n0 x0) (n0))) := by rw [Hw16.out]; simp [go_sem]
    have cy16 : w16.cell? ⟨w15.heap.size, 1, none⟩ = some (.slice p15 l15 c15) := by rw [Hw16.out]; simp [go_sem]
    have z16 : w15.heap.size < w16.heap.size := by rw [Hw16.out]; simp
    clear Hw16
    refine (eqNetwork_yes _ _ _ _ _ R15.intss R2.intss).mono ?_; rintro e w17 ⟨rfl, b17⟩
    replace R2 := R2.below b17 (by omega)
    replace R6 := R6.below b17 (by omega)
    replace R15 := R15.below b17 (by omega)
    replace ca0 := Below.keeps b17 _ _ ca0
    replace cb0 := Below.keeps b17 _ _ cb0
    replace cx3 := Below.keeps b17 _ _ cx3
    replace cy3 := Below.keeps b17 _ _ cy3
    replace cx5 := Below.keeps b17 _ _ cx5
    replace cy5 := Below.keeps b17 _ _ cy5
    replace cx7 := Below.keeps b17 _ _ cx7
    replace cy7 := Below.keeps b17 _ _ cy7
    replace cx16 := Below.keeps b17 _ _ cx16
    replace cy16 := Below.keeps b17 _ _ cy16
    have sw17 := b17.size
    replace B := B.trans (b17.mono (by omega))
    go_wp2_with fail
    refine (heldNetwork _ _ (nbR (NetP n0 x0) (byR n0 x0)) ((1 : Int)) _ R6.intss (by omega) (by omega)).mono ?_; rintro e w18 ⟨rfl, b18⟩
    replace R2 := R2.below b18 (by omega)
    replace R6 := R6.below b18 (by omega)
    replace R15 := R15.below b18 (by omega)
    replace ca0 := Below.keeps b18 _ _ ca0
    replace cb0 := Below.keeps b18 _ _ cb0
    replace cx3 := Below.keeps b18 _ _ cx3
    replace cy3 := Below.keeps b18 _ _ cy3
    replace cx5 := Below.keeps b18 _ _ cx5
    replace cy5 := Below.keeps b18 _ _ cy5
    replace cx7 := Below.keeps b18 _ _ cx7
    replace cy7 := Below.keeps b18 _ _ cy7
    replace cx16 := Below.keeps b18 _ _ cx16
    replace cy16 := Below.keeps b18 _ _ cy16
    have sw18 := b18.size
    replace B := B.trans (b18.mono (by omega))
    have hqm : (((1 : Int) + (sumLen (nbR (NetP n0 x0) (byR n0 x0)) : Int)) != ((1 : Int) + (sumLen (nbR (NetP n0 x0) (byR n0 x0)) : Int))) = false := by simp
    have BE := BB.trans (B.mono BB.size)
    go_wp2
    go_ret
    exact ⟨rfl, BE⟩
  · skip
    have hs0 : szSS x0 1048576 < 0 := by unfold szSS szI; rw [if_neg hg0]; omega
    go_enter Try.func3, Try.ntmps3
    have B : Below W0.heap.size W0 W0 := Below.refl _ _
    go_wp2_with fail
    rw [← HW0.out]
    refine (szNetwork n0 _ x0 1048576 _ (I0.keep (Below.keeps B)) (by omega) (by omega)).mono ?_; rintro e w1 ⟨rfl, b1⟩
    have ca0 := Below.keeps b1 _ _ ca0
    have cb0 := Below.keeps b1 _ _ cb0
    have B := B.trans (b1.mono (by omega)); have sw1 := b1.size
    have BE := BB.trans (B.mono BB.size)
    go_wp2
    go_ret
    exact ⟨rfl, BE⟩


set_option maxRecDepth 100000 in
theorem lifted (os : Os) (started : os.Started) (H : Type) (enc : TypeId × Value → H) :
    ReturnsInHanded {} Try.checked os 3 .any (Rows.fnExactByLevelsSpec.pre6 enc Try.prog Try.f3 Rows.fnExactByLevelsRow.domain false) (Rows.fnExactByLevelsSpec.post enc Try.prog Try.f3 false true false false) := by
  refine returnsInHanded_of_change (C := Try.checked) own started (by kernel_rfl) Try.func3
    (ChangeSpec.witness6 (enc := enc) (C := Try.checked) false ⟨#[], #[.agg #[.int .i64 0, .slice none 0 0]], []⟩ 8 (by kernel_rfl) (by kernel_rfl) (by kernel_rfl) (by kernel_rfl)) ?_
  intro W base args ds gs before hval0 hW hcnd _
  have hval : ∀ (j : Nat) t v, Try.f3.params[j]? = some t → args[j]? = some v → Value.okWide Try.prog W .any base t v := hval0
  have hW' := hW
  obtain ⟨p, q, hA0, hV, rfl, hfz, hnd⟩ := hW
  have hA : DataW.TrodAll enc Try.prog W 0 (fun _ => true) true Try.f3.params.toList args.toList ds p := hA0
  rw [Try.params3] at hA hval
  obtain ⟨v0, vs0, d0, ds0, p0, q0, hargs, rfl, rfl, h0, r0⟩ := trodAll_cons hA
  obtain ⟨rfl, rfl, rfl⟩ := trodAll_nil r0
  obtain rfl : args = #[v0] := by cases args; simp_all
  obtain ⟨rfl, rfl⟩ := trodVars_none hV
  have k0 := h0
  have lt0 : ∀ x ∈ p0, x.block < W.heap.size := by obtain ⟨m, hm⟩ := k0; exact DataW.trod_lt m _ _ _ hm
  obtain ⟨n0, u0, x0, rfl, w0, z0⟩ := openNet (hval 0 24 v0 rfl rfl) h0
  clear hA0 hval0
  refine (law n0 u0 x0 W w0 z0).mono fun e W' ⟨he, bel⟩ => ?_
  subst he
  exact ⟨_, rfl, _, _, _, [], _, [], hW', trodAll_mk1 (shut_bool Try.underlying4 _), (trodAll_cons_mk (Below.trod laidOut (by kernel_rfl) (of_decide_eq_true (by kernel_rfl)) k0 bel lt0) trodAll_mk0), rfl, bel.frame _, fun h => by cases h⟩

theorem band {a b : Bool} (h1 : a = true) (h2 : b = true) : (a && b) = true := by subst h1; subst h2; rfl
set_option maxHeartbeats 4000000 in
/-- The closed facts of the program, each checked by itself. -/
theorem joined : joinedFacts Try.prog 3 Try.f3 Rows.fnExactByLevelsSpec Rows.fnExactByLevelsRow = true := by
  unfold joinedFacts
  repeat' (with_reducible apply band)
  all_goals (as_aux_lemma => kernel_rfl)

theorem over : Rows.fnExactByLevelsRow.holds Try.pinned (OpenSpec.ofChange Rows.fnExactByLevelsSpec) :=
  OpenClaim.holds_of_wide 3 Try.f3 rfl rfl rfl rfl rfl rfl rfl ⟨rfl, rfl, rfl, rfl, rfl⟩ rfl rfl rfl rfl rfl (by as_aux_lemma => kernel_rfl) Try.func3 joined
    (of_decide_eq_true (by as_aux_lemma => kernel_rfl)) (by unfold Func.isWrapper; first | (rw [if_pos (by decide +kernel)]; kernel_rfl) | (rw [if_neg (by decide +kernel)]; exact ⟨rfl, rfl⟩))
    (fun os started H enc _ => lifted os started H enc)

theorem proved : Rows.FnExactByLevelsSaid := over
end Go.Proofs.Ythcnmaapcniehaa.fnExactByLevels
