/- The statement FnExactKnownOrder: the law returns true for every input, and every input reads behind the call as it read before. No condition. -/
import Derived.Test.YtalkcpfahefajaaRows
import Derived.Test.YtalkcpfahefajaaKnown2
import Derived.Test.YtalkcpfahefajaaNetB
import Derived.Test.YtalkcpfahefajaaMark
import Derived.Test.YtalkcpfahefajaaOpenNet
namespace Go.Proofs.Ytalkcpfahefajaa.fnExactKnownOrder
open Go.ChangeShapes Go.WideShapes Go.ChangeAt Go.RowKit Go.Proofs.Ytalkcpfahefajaa
open Go.ChangeMaps (open_string shut_string)
set_option linter.unusedVariables false

set_option maxHeartbeats 4000000 in
set_option maxRecDepth 100000 in
theorem law (n0 : Int) (v0 : Value) (x0 : List (List Int)) (w : World) (h0 : (Lit.int .i64 n0).wf = true) (I0 : IntSS w v0 x0) :
    Calls Try.prog 3 #[.agg #[.int .i64 n0, v0]] w fun e w' => e = .returned (.bool true) ∧ Below w.heap.size w w' := by
  obtain ⟨ao0, cap0, hv0, hcap0, hmax0, hnil0, hcell0⟩ := id I0
  clear hnil0 hcell0
  unfold maxLen at hmax0
  have hw0 := Lib.hid h0; clear h0
  have hd0 := ko_le n0 x0
  obtain ⟨W0, HW0⟩ : ∃ W0, Hid (W0 = (w.alloc (.cells #[.int .i64 n0, v0] 24))) := ⟨_, rfl⟩
  have BB : Below w.heap.size w W0 := by rw [HW0.out]; exact ((Below.refl _ _).alloc (by simp) _)
  have ca0 : W0.cell? ⟨w.heap.size, 0, none⟩ = some (.int .i64 n0) := by rw [HW0.out]; simp [go_sem]
  have cb0 : W0.cell? ⟨w.heap.size, 1, none⟩ = some v0 := by rw [HW0.out]; simp [go_sem]
  have za : w.heap.size + 1 ≤ W0.heap.size := by rw [HW0.out]; simp
  have I0 := I0.keep (Below.keeps BB)
  subst hv0
  by_cases hg0 : ((x0.length + sumLen x0 : Nat) : Int) ≤ 1048576
  · skip
    have hs0 : 0 ≤ szSS x0 1048576 ∧ szSS x0 1048576 ≤ 1048576 := by unfold szSS szI; rw [if_pos hg0]; omega
    have ht0 := hs0.1; have hu0 := hs0.2; clear hs0
    have hl0 : x0.length + sumLen x0 ≤ 1048576 := by omega
    have hq0 : decide ((szSS x0 1048576) < 0) = false := decide_eq_false (by omega)
    go_enter Try.func3, Try.ntmps3
    have B : Below W0.heap.size W0 W0 := Below.refl _ _
    go_wp2_with fail
    rw [← HW0.out]
    refine (szNetwork n0 _ x0 1048576 _ (I0.keep (Below.keeps B)) (by omega) (by omega)).mono ?_; rintro e wz0 ⟨rfl, bz0⟩
    have ca0 := Below.keeps bz0 _ _ ca0
    have cb0 := Below.keeps bz0 _ _ cb0
    have swz0 := bz0.size; have B := B.trans (bz0.mono (by omega))
    go_wp2_with fail
    refine (toNetwork n0 _ x0 _ (I0.keep (Below.keeps B)) hl0).mono ?_; rintro e w1 ⟨u1, rfl, R1, b1⟩
    obtain ⟨p1, l1, c1, hu1⟩ := R1.shape; subst hu1
    replace ca0 := Below.keeps b1 _ _ ca0
    replace cb0 := Below.keeps b1 _ _ cb0
    have sw1 := b1.size
    replace B := B.trans (b1.mono (by omega))
    go_wp2_with fail
    refine (specKnownOrder n0 _ x0 _ hw0.out R1.intss hl0).mono ?_; rintro e w2 ⟨u2, rfl, R2, b2⟩
    replace R1 := R1.below b2 (by omega)
    replace ca0 := Below.keeps b2 _ _ ca0
    replace cb0 := Below.keeps b2 _ _ cb0
    have sw2 := b2.size
    replace B := B.trans (b2.mono (by omega))
    clear R1
    go_wp2_with fail
    refine (toNetwork n0 _ x0 _ (I0.keep (Below.keeps B)) hl0).mono ?_; rintro e w3 ⟨u3, rfl, R3, b3⟩
    obtain ⟨p3, l3, c3, hu3⟩ := R3.shape; subst hu3
    replace R2 := R2.below b3 (by omega)
    replace ca0 := Below.keeps b3 _ _ ca0
    replace cb0 := Below.keeps b3 _ _ cb0
    have sw3 := b3.size
    replace B := B.trans (b3.mono (by omega))
    go_wp2_with fail
    obtain ⟨w4, Hw4⟩ : ∃ W, Hid (W = w3.alloc (.cells #[.int .i64 n0, (.slice p3 l3 c3)] 27)) := ⟨_, rfl⟩
    rw [← Hw4.out]
    have b4 : Below w3.heap.size w3 w4 := by rw [Hw4.out]; exact (Below.refl _ _).alloc (Nat.le_refl _) _
    replace R2 := R2.below b4 (by omega)
    replace R3 := R3.below b4 (by omega)
    replace ca0 := Below.keeps b4 _ _ ca0
    replace cb0 := Below.keeps b4 _ _ cb0
    have sw4 := b4.size
    replace B := B.trans (b4.mono (by omega))
    have cx4 : w4.cell? ⟨w3.heap.size, 0, none⟩ = some (.int .i64 n0) := by rw [Hw4.out]; simp [go_sem]
    have cy4 : w4.cell? ⟨w3.heap.size, 1, none⟩ = some (.slice p3 l3 c3) := by rw [Hw4.out]; simp [go_sem]
    have z4 : w3.heap.size < w4.heap.size := by rw [Hw4.out]; simp
    clear Hw4
    refine (implKnownOrder n0 _ x0 _ hw0.out R3.intss hl0).mono ?_; rintro e w5 ⟨u5, rfl, R5, b5⟩
    replace R2 := R2.below b5 (by omega)
    replace R3 := R3.below b5 (by omega)
    replace ca0 := Below.keeps b5 _ _ ca0
    replace cb0 := Below.keeps b5 _ _ cb0
    replace cx4 := Below.keeps b5 _ _ cx4
    replace cy4 := Below.keeps b5 _ _ cy4
    have sw5 := b5.size
    replace B := B.trans (b5.mono (by omega))
    go_wp2_with fail
    refine (eqIntSS_yes _ _ _ _ R5.intss R2.intss).mono ?_; rintro e w6 ⟨rfl, b6⟩
    replace R2 := R2.below b6 (by omega)
    replace R3 := R3.below b6 (by omega)
    replace R5 := R5.below b6 (by omega)
    replace ca0 := Below.keeps b6 _ _ ca0
    replace cb0 := Below.keeps b6 _ _ cb0
    replace cx4 := Below.keeps b6 _ _ cx4
    replace cy4 := Below.keeps b6 _ _ cy4
    have sw6 := b6.size
    replace B := B.trans (b6.mono (by omega))
    have JX := R3.intss
    go_wp2
    go_region_held3 (fun w' => (w'.cell? ⟨w3.heap.size, 0, none⟩ = some (.int .i64 n0) ∧ w'.cell? ⟨w3.heap.size, 1, none⟩ = some (.slice p3 l3 c3) ∧ w'.cell? ⟨w.heap.size, 0, none⟩ = some (.int .i64 n0) ∧ w'.cell? ⟨w.heap.size, 1, none⟩ = some (.slice ao0 x0.length cap0)) ∧ Below w6.heap.size w6 w')
      (first | exact ⟨⟨cx4, cy4, ca0, cb0⟩, (Below.refl _ _).drew⟩ | exact held4 (by assumption) (by assumption))
      (first | (go_at_call 7; refine (toNetwork n0 _ x0 _ (I0.keep ((Below.keeps B).trans (Below.keeps (And.right (by assumption))))) hl0).mono ?_; rintro e w7a ⟨u7a, rfl, R7a, b7a⟩) | (go_at_call 10; refine (eqNetwork_yes n0 _ _ x0 _ (JX.keep (Below.keeps (And.right (by assumption)))) R7a.intss).mono ?_; rintro e w7 ⟨rfl, b7b⟩))
    have b7 : Below w6.heap.size w6 w7 := And.right (by assumption)
    clear JX
    replace R2 := R2.below b7 (by omega)
    replace R3 := R3.below b7 (by omega)
    replace R5 := R5.below b7 (by omega)
    replace ca0 := Below.keeps b7 _ _ ca0
    replace cb0 := Below.keeps b7 _ _ cb0
    replace cx4 := Below.keeps b7 _ _ cx4
    replace cy4 := Below.keeps b7 _ _ cy4
    have sw7 := b7.size
    replace B := B.trans (b7.mono (by omega))
    go_wp2_with fail
    refine (markNetwork _ _ _ _ (x0) ((1 : Int)) _ R3 (by omega) (by omega) (by omega)).mono ?_; rintro e w8 ⟨rfl, R3, c8⟩
    replace R2 := R2.chg c8 (by omega)
    replace R5 := R5.chg c8 (by omega)
    replace ca0 := chg_cell c8 (by omega) ca0
    replace cb0 := chg_cell c8 (by omega) cb0
    replace cx4 := chg_cell c8 (by omega) cx4
    replace cy4 := chg_cell c8 (by omega) cy4
    have sw8 := c8.size
    replace B := B.trans (c8.below (by omega) (by omega))
    clear R3
    have hk : decide (((1 : Int) + (sumLen (x0) : Int)) < 0) = false := decide_eq_false (by omega)
    go_wp2_with fail
    refine (eqIntSS_yes _ _ _ _ R5.intss R2.intss).mono ?_; rintro e w9 ⟨rfl, b9⟩
    replace R2 := R2.below b9 (by omega)
    replace R5 := R5.below b9 (by omega)
    replace ca0 := Below.keeps b9 _ _ ca0
    replace cb0 := Below.keeps b9 _ _ cb0
    replace cx4 := Below.keeps b9 _ _ cx4
    replace cy4 := Below.keeps b9 _ _ cy4
    have sw9 := b9.size
    replace B := B.trans (b9.mono (by omega))
    go_wp2_with fail
    refine (markIntSS _ _ _ (koN n0 x0) ((1 : Int)) _ R5 (by omega) (by omega)).mono ?_; rintro e w10 ⟨rfl, R5, c10⟩
    replace R2 := R2.chg c10 (by omega)
    replace ca0 := chg_cell c10 (by omega) ca0
    replace cb0 := chg_cell c10 (by omega) cb0
    replace cx4 := chg_cell c10 (by omega) cx4
    replace cy4 := chg_cell c10 (by omega) cy4
    have sw10 := c10.size
    replace B := B.trans (c10.below (by omega) (by omega))
    go_wp2_with fail
    refine (heldIntSS _ (koN n0 x0) ((1 : Int)) _ R5.intss (by omega) (by omega)).mono ?_; rintro e w11 ⟨rfl, b11⟩
    replace R2 := R2.below b11 (by omega)
    replace R5 := R5.below b11 (by omega)
    replace ca0 := Below.keeps b11 _ _ ca0
    replace cb0 := Below.keeps b11 _ _ cb0
    replace cx4 := Below.keeps b11 _ _ cx4
    replace cy4 := Below.keeps b11 _ _ cy4
    have sw11 := b11.size
    replace B := B.trans (b11.mono (by omega))
    have hqm : (((1 : Int) + (sumLen (koN n0 x0) : Int)) != ((1 : Int) + (sumLen (koN n0 x0) : Int))) = false := by simp
    go_wp2_with fail
    refine (toNetwork n0 _ x0 _ (I0.keep (Below.keeps B)) hl0).mono ?_; rintro e w12 ⟨u12, rfl, R12, b12⟩
    obtain ⟨p12, l12, c12, hu12⟩ := R12.shape; subst hu12
    replace R2 := R2.below b12 (by omega)
    replace R5 := R5.below b12 (by omega)
    replace ca0 := Below.keeps b12 _ _ ca0
    replace cb0 := Below.keeps b12 _ _ cb0
    replace cx4 := Below.keeps b12 _ _ cx4
    replace cy4 := Below.keeps b12 _ _ cy4
    have sw12 := b12.size
    replace B := B.trans (b12.mono (by omega))
    go_wp2_with fail
    refine (implKnownOrder n0 _ x0 _ hw0.out R12.intss hl0).mono ?_; rintro e w13 ⟨u13, rfl, R13, b13⟩
    replace R2 := R2.below b13 (by omega)
    replace R5 := R5.below b13 (by omega)
    replace R12 := R12.below b13 (by omega)
    replace ca0 := Below.keeps b13 _ _ ca0
    replace cb0 := Below.keeps b13 _ _ cb0
    replace cx4 := Below.keeps b13 _ _ cx4
    replace cy4 := Below.keeps b13 _ _ cy4
    have sw13 := b13.size
    replace B := B.trans (b13.mono (by omega))
    clear R12
    go_wp2_with fail
    refine (eqIntSS_yes _ _ _ _ R13.intss R2.intss).mono ?_; rintro e w14 ⟨rfl, b14⟩
    replace R2 := R2.below b14 (by omega)
    replace R5 := R5.below b14 (by omega)
    replace R13 := R13.below b14 (by omega)
    replace ca0 := Below.keeps b14 _ _ ca0
    replace cb0 := Below.keeps b14 _ _ cb0
    replace cx4 := Below.keeps b14 _ _ cx4
    replace cy4 := Below.keeps b14 _ _ cy4
    have sw14 := b14.size
    replace B := B.trans (b14.mono (by omega))
    go_wp2_with fail
    refine (heldIntSS _ (koN n0 x0) ((1 : Int)) _ R5.intss (by omega) (by omega)).mono ?_; rintro e w15 ⟨rfl, b15⟩
    replace R2 := R2.below b15 (by omega)
    replace R5 := R5.below b15 (by omega)
    replace R13 := R13.below b15 (by omega)
    replace ca0 := Below.keeps b15 _ _ ca0
    replace cb0 := Below.keeps b15 _ _ cb0
    replace cx4 := Below.keeps b15 _ _ cx4
    replace cy4 := Below.keeps b15 _ _ cy4
    have sw15 := b15.size
    replace B := B.trans (b15.mono (by omega))
    have hqm : (((1 : Int) + (sumLen (koN n0 x0) : Int)) != ((1 : Int) + (sumLen (koN n0 x0) : Int))) = false := by simp
    have BE := BB.trans (B.mono BB.size)
    go_wp2
    go_ret
    exact ⟨rfl, BE⟩
  · skip
    have hs0 : szSS x0 1048576 < 0 := by unfold szSS szI; rw [if_neg hg0]; omega
    go_enter Try.func3, Try.ntmps3
    have B : Below W0.heap.size W0 W0 := Below.refl _ _
    go_wp2_with fail
    rw [← HW0.out]
    refine (szNetwork n0 _ x0 1048576 _ (I0.keep (Below.keeps B)) (by omega) (by omega)).mono ?_; rintro e w1 ⟨rfl, b1⟩
    have ca0 := Below.keeps b1 _ _ ca0
    have cb0 := Below.keeps b1 _ _ cb0
    have B := B.trans (b1.mono (by omega)); have sw1 := b1.size
    have BE := BB.trans (B.mono BB.size)
    go_wp2
    go_ret
    exact ⟨rfl, BE⟩


set_option maxRecDepth 100000 in
theorem lifted (os : Os) (started : os.Started) (H : Type) (enc : TypeId × Value → H) :
    ReturnsInHanded {} Try.checked os 3 .any (Rows.fnExactKnownOrderSpec.pre6 enc Try.prog Try.f3 Rows.fnExactKnownOrderRow.domain false) (Rows.fnExactKnownOrderSpec.post enc Try.prog Try.f3 false true false false) := by
  refine returnsInHanded_of_change (C := Try.checked) own started (by kernel_rfl) Try.func3
    (ChangeSpec.witness6 (enc := enc) (C := Try.checked) false ⟨#[], #[.agg #[.int .i64 0, .slice none 0 0]], []⟩ 8 (by kernel_rfl) (by kernel_rfl) (by kernel_rfl) (by kernel_rfl)) ?_
  intro W base args ds gs before hval0 hW hcnd _
  have hval : ∀ (j : Nat) t v, Try.f3.params[j]? = some t → args[j]? = some v → Value.okWide Try.prog W .any base t v := hval0
  have hW' := hW
  obtain ⟨p, q, hA0, hV, rfl, hfz, hnd⟩ := hW
  have hA : DataW.TrodAll enc Try.prog W 0 (fun _ => true) true Try.f3.params.toList args.toList ds p := hA0
  rw [Try.params3] at hA hval
  obtain ⟨v0, vs0, d0, ds0, p0, q0, hargs, rfl, rfl, h0, r0⟩ := trodAll_cons hA
  obtain ⟨rfl, rfl, rfl⟩ := trodAll_nil r0
  obtain rfl : args = #[v0] := by cases args; simp_all
  obtain ⟨rfl, rfl⟩ := trodVars_none hV
  have k0 := h0
  have lt0 : ∀ x ∈ p0, x.block < W.heap.size := by obtain ⟨m, hm⟩ := k0; exact DataW.trod_lt m _ _ _ hm
  obtain ⟨n0, u0, x0, rfl, w0, z0⟩ := openNet (hval 0 24 v0 rfl rfl) h0
  clear hA0 hval0
  refine (law n0 u0 x0 W w0 z0).mono fun e W' ⟨he, bel⟩ => ?_
  subst he
  exact ⟨_, rfl, _, _, _, [], _, [], hW', trodAll_mk1 (shut_bool Try.underlying4 _), (trodAll_cons_mk (Below.trod laidOut (by kernel_rfl) (of_decide_eq_true (by kernel_rfl)) k0 bel lt0) trodAll_mk0), rfl, bel.frame _, fun h => by cases h⟩

theorem band {a b : Bool} (h1 : a = true) (h2 : b = true) : (a && b) = true := by subst h1; subst h2; rfl
set_option maxHeartbeats 4000000 in
/-- The closed facts of the program, each checked by itself. -/
theorem joined : joinedFacts Try.prog 3 Try.f3 Rows.fnExactKnownOrderSpec Rows.fnExactKnownOrderRow = true := by
  unfold joinedFacts
  repeat' (with_reducible apply band)
  all_goals (as_aux_lemma => kernel_rfl)

theorem over : Rows.fnExactKnownOrderRow.holds Try.pinned (OpenSpec.ofChange Rows.fnExactKnownOrderSpec) :=
  OpenClaim.holds_of_wide 3 Try.f3 rfl rfl rfl rfl rfl rfl rfl ⟨rfl, rfl, rfl, rfl, rfl⟩ rfl rfl rfl rfl rfl (by as_aux_lemma => kernel_rfl) Try.func3 joined
    (of_decide_eq_true (by as_aux_lemma => kernel_rfl)) (by unfold Func.isWrapper; first | (rw [if_pos (by decide +kernel)]; kernel_rfl) | (rw [if_neg (by decide +kernel)]; exact ⟨rfl, rfl⟩))
    (fun os started H enc _ => lifted os started H enc)

theorem proved : Rows.FnExactKnownOrderSaid := over
end Go.Proofs.Ytalkcpfahefajaa.fnExactKnownOrder
