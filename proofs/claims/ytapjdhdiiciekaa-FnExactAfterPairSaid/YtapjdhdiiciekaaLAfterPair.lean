/- The statement FnExactAfterPair: the law returns true for every input, and every input reads behind the call as it read before. No condition. -/
import Derived.Test.YtapjdhdiiciekaaRows
import Derived.Test.YtapjdhdiiciekaaAfter
import Derived.Test.YtapjdhdiiciekaaNetB
import Derived.Test.YtapjdhdiiciekaaMark
namespace Go.Proofs.Ytapjdhdiiciekaa.fnExactAfterPair
open Go.ChangeShapes Go.WideShapes Go.ChangeAt Go.RowKit Go.Proofs.Ytapjdhdiiciekaa
open Go.ChangeMaps (open_string shut_string)
set_option linter.unusedVariables false

set_option maxHeartbeats 4000000 in
set_option maxRecDepth 100000 in
theorem law (a0 : Int) (v1 : Value) (x1 : List Int) (a2 : Int) (a3 : Int) (w : World) (h0 : (Lit.int .i64 a0).wf = true) (I1 : Ints w v1 x1) (h2 : (Lit.int .i64 a2).wf = true) (h3 : (Lit.int .i64 a3).wf = true) :
    Calls Try.prog 3 #[.int .i64 a0, v1, .int .i64 a2, .int .i64 a3] w fun e w' => e = .returned (.bool true) ∧ Below w.heap.size w w' := by
  have hw0 := Lib.hid h0; clear h0
  obtain ⟨ao1, cap1, hv1, hcap1, hmax1, hnil1, hcell1⟩ := id I1
  clear hnil1 hcell1
  unfold maxLen at hmax1
  have hw2 := Lib.hid h2; clear h2
  have hw3 := Lib.hid h3; clear h3
  have hd0 := afN_le a0 x1 a2 a3
  obtain ⟨W0, HW0⟩ : ∃ W0, Hid (W0 = w) := ⟨_, rfl⟩
  have BB : Below w.heap.size w W0 := by rw [HW0.out]; exact Below.refl _ _
  have I1 := I1.keep (Below.keeps BB)
  subst hv1
  by_cases hl1 : x1.length ≤ 1048576
  · skip
    go_enter Try.func3, Try.ntmps3
    have B : Below W0.heap.size W0 W0 := Below.refl _ _
    go_wp2_with fail
    rw [← HW0.out]
    refine (toIntS _ x1 _ (I1.keep (Below.keeps B)) hl1).mono ?_; rintro e w1 ⟨u1, rfl, R1, b1⟩
    have sw1 := b1.size
    replace B := B.trans (b1.mono (by omega))
    go_wp2_with fail
    refine (specAfterPair a0 _ x1 a2 a3 _ hw0.out R1.ints hl1 hw2.out hw3.out).mono ?_; rintro e w2 ⟨u2, rfl, R2, b2⟩
    replace R1 := R1.below b2 (by omega)
    have sw2 := b2.size
    replace B := B.trans (b2.mono (by omega))
    clear R1
    go_wp2_with fail
    refine (toIntS _ x1 _ (I1.keep (Below.keeps B)) hl1).mono ?_; rintro e w3 ⟨u3, rfl, R3, b3⟩
    replace R2 := R2.below b3 (by omega)
    have sw3 := b3.size
    replace B := B.trans (b3.mono (by omega))
    go_wp2_with fail
    refine (implAfterPair a0 _ x1 a2 a3 _ hw0.out R3.ints hl1 hw2.out hw3.out).mono ?_; rintro e w4 ⟨u4, rfl, R4, b4⟩
    replace R2 := R2.below b4 (by omega)
    replace R3 := R3.below b4 (by omega)
    have sw4 := b4.size
    replace B := B.trans (b4.mono (by omega))
    go_wp2_with fail
    refine (eqIntS_yes _ _ _ _ R4.ints R2.ints).mono ?_; rintro e w5 ⟨rfl, b5⟩
    replace R2 := R2.below b5 (by omega)
    replace R3 := R3.below b5 (by omega)
    replace R4 := R4.below b5 (by omega)
    have sw5 := b5.size
    replace B := B.trans (b5.mono (by omega))
    go_wp2_with fail
    refine (toIntS _ x1 _ (I1.keep (Below.keeps B)) hl1).mono ?_; rintro e w6 ⟨u6, rfl, R6, b6⟩
    replace R2 := R2.below b6 (by omega)
    replace R3 := R3.below b6 (by omega)
    replace R4 := R4.below b6 (by omega)
    have sw6 := b6.size
    replace B := B.trans (b6.mono (by omega))
    go_wp2_with fail
    refine (eqIntS_yes _ _ _ _ R3.ints R6.ints).mono ?_; rintro e w7 ⟨rfl, b7⟩
    replace R2 := R2.below b7 (by omega)
    replace R3 := R3.below b7 (by omega)
    replace R4 := R4.below b7 (by omega)
    replace R6 := R6.below b7 (by omega)
    have sw7 := b7.size
    replace B := B.trans (b7.mono (by omega))
    clear R6
    go_wp2_with fail
    refine (markIntS _ _ _ (x1) ((1 : Int)) _ R3 (by omega) (by omega)).mono ?_; rintro e w8 ⟨rfl, R3, c8⟩
    replace R2 := R2.chg c8 (by omega)
    replace R4 := R4.chg c8 (by omega)
    have sw8 := c8.size
    replace B := B.trans (c8.below (by omega) (by omega))
    clear R3
    have hk : decide (((1 : Int) + ((x1).length : Int)) < 0) = false := decide_eq_false (by omega)
    go_wp2_with fail
    refine (eqIntS_yes _ _ _ _ R4.ints R2.ints).mono ?_; rintro e w9 ⟨rfl, b9⟩
    replace R2 := R2.below b9 (by omega)
    replace R4 := R4.below b9 (by omega)
    have sw9 := b9.size
    replace B := B.trans (b9.mono (by omega))
    go_wp2_with fail
    refine (markIntS _ _ _ (afN a0 x1 a2 a3) ((1 : Int)) _ R4 (by omega) (by omega)).mono ?_; rintro e w10 ⟨rfl, R4, c10⟩
    replace R2 := R2.chg c10 (by omega)
    have sw10 := c10.size
    replace B := B.trans (c10.below (by omega) (by omega))
    go_wp2_with fail
    refine (heldIntS _ (afN a0 x1 a2 a3).length ((1 : Int)) _ R4.ints (by omega) (by omega)).mono ?_; rintro e w11 ⟨rfl, b11⟩
    replace R2 := R2.below b11 (by omega)
    replace R4 := R4.below b11 (by omega)
    have sw11 := b11.size
    replace B := B.trans (b11.mono (by omega))
    have hqm : (((1 : Int) + ((afN a0 x1 a2 a3).length : Int)) != ((1 : Int) + ((afN a0 x1 a2 a3).length : Int))) = false := by simp
    go_wp2_with fail
    refine (toIntS _ x1 _ (I1.keep (Below.keeps B)) hl1).mono ?_; rintro e w12 ⟨u12, rfl, R12, b12⟩
    replace R2 := R2.below b12 (by omega)
    replace R4 := R4.below b12 (by omega)
    have sw12 := b12.size
    replace B := B.trans (b12.mono (by omega))
    go_wp2_with fail
    refine (implAfterPair a0 _ x1 a2 a3 _ hw0.out R12.ints hl1 hw2.out hw3.out).mono ?_; rintro e w13 ⟨u13, rfl, R13, b13⟩
    replace R2 := R2.below b13 (by omega)
    replace R4 := R4.below b13 (by omega)
    replace R12 := R12.below b13 (by omega)
    have sw13 := b13.size
    replace B := B.trans (b13.mono (by omega))
    clear R12
    go_wp2_with fail
    refine (eqIntS_yes _ _ _ _ R13.ints R2.ints).mono ?_; rintro e w14 ⟨rfl, b14⟩
    replace R2 := R2.below b14 (by omega)
    replace R4 := R4.below b14 (by omega)
    replace R13 := R13.below b14 (by omega)
    have sw14 := b14.size
    replace B := B.trans (b14.mono (by omega))
    go_wp2_with fail
    refine (heldIntS _ (afN a0 x1 a2 a3).length ((1 : Int)) _ R4.ints (by omega) (by omega)).mono ?_; rintro e w15 ⟨rfl, b15⟩
    replace R2 := R2.below b15 (by omega)
    replace R4 := R4.below b15 (by omega)
    replace R13 := R13.below b15 (by omega)
    have sw15 := b15.size
    replace B := B.trans (b15.mono (by omega))
    have hqm : (((1 : Int) + ((afN a0 x1 a2 a3).length : Int)) != ((1 : Int) + ((afN a0 x1 a2 a3).length : Int))) = false := by simp
    have BE := BB.trans (B.mono BB.size)
    go_wp2
    go_ret
    exact ⟨rfl, BE⟩
  · skip
    go_enter Try.func3, Try.ntmps3
    go_wp2
    go_ret
    exact ⟨rfl, Below.refl _ _⟩


set_option maxRecDepth 100000 in
theorem lifted (os : Os) (started : os.Started) (H : Type) (enc : TypeId × Value → H) :
    ReturnsInHanded {} Try.checked os 3 .any (Rows.fnExactAfterPairSpec.pre6 enc Try.prog Try.f3 Rows.fnExactAfterPairRow.domain false) (Rows.fnExactAfterPairSpec.post enc Try.prog Try.f3 false true false false) := by
  refine returnsInHanded_of_change (C := Try.checked) own started (by kernel_rfl) Try.func3
    (ChangeSpec.witness6 (enc := enc) (C := Try.checked) false ⟨#[], #[.int .i64 0, .slice none 0 0, .int .i64 0, .int .i64 0], []⟩ 8 (by kernel_rfl) (by kernel_rfl) (by kernel_rfl) (by kernel_rfl)) ?_
  intro W base args ds gs before hval0 hW hcnd _
  have hval : ∀ (j : Nat) t v, Try.f3.params[j]? = some t → args[j]? = some v → Value.okWide Try.prog W .any base t v := hval0
  have hW' := hW
  obtain ⟨p, q, hA0, hV, rfl, hfz, hnd⟩ := hW
  have hA : DataW.TrodAll enc Try.prog W 0 (fun _ => true) true Try.f3.params.toList args.toList ds p := hA0
  rw [Try.params3] at hA hval
  obtain ⟨v0, vs0, d0, ds0, p0, q0, hargs, rfl, rfl, h0, r0⟩ := trodAll_cons hA
  obtain ⟨v1, vs1, d1, ds1, p1, q1, rfl, rfl, rfl, h1, r1⟩ := trodAll_cons r0
  obtain ⟨v2, vs2, d2, ds2, p2, q2, rfl, rfl, rfl, h2, r2⟩ := trodAll_cons r1
  obtain ⟨v3, vs3, d3, ds3, p3, q3, rfl, rfl, rfl, h3, r3⟩ := trodAll_cons r2
  obtain ⟨rfl, rfl, rfl⟩ := trodAll_nil r3
  obtain rfl : args = #[v0, v1, v2, v3] := by cases args; simp_all
  obtain ⟨rfl, rfl⟩ := trodVars_none hV
  have k0 := h0
  have lt0 : ∀ x ∈ p0, x.block < W.heap.size := by obtain ⟨m, hm⟩ := k0; exact DataW.trod_lt m _ _ _ hm
  obtain ⟨a0, rfl, hd0, hp0, w0⟩ := open_int Try.underlying3 (hval 0 3 v0 rfl rfl) h0
  have k1 := h1
  have lt1 : ∀ x ∈ p1, x.block < W.heap.size := by obtain ⟨m, hm⟩ := k1; exact DataW.trod_lt m _ _ _ hm
  obtain ⟨x1, w1⟩ := Ints.of_trod Try.underlying22 Try.underlying3 cellsInt (hval 1 22 v1 rfl rfl) h1
  have k2 := h2
  have lt2 : ∀ x ∈ p2, x.block < W.heap.size := by obtain ⟨m, hm⟩ := k2; exact DataW.trod_lt m _ _ _ hm
  obtain ⟨a2, rfl, hd2, hp2, w2⟩ := open_int Try.underlying3 (hval 2 3 v2 rfl rfl) h2
  have k3 := h3
  have lt3 : ∀ x ∈ p3, x.block < W.heap.size := by obtain ⟨m, hm⟩ := k3; exact DataW.trod_lt m _ _ _ hm
  obtain ⟨a3, rfl, hd3, hp3, w3⟩ := open_int Try.underlying3 (hval 3 3 v3 rfl rfl) h3
  clear hA0 hval0
  refine (law a0 v1 x1 a2 a3 W w0 w1 w2 w3).mono fun e W' ⟨he, bel⟩ => ?_
  subst he
  exact ⟨_, rfl, _, _, _, [], _, [], hW', trodAll_mk1 (shut_bool Try.underlying4 _), (trodAll_cons_mk (Below.trod laidOut (by kernel_rfl) (of_decide_eq_true (by kernel_rfl)) k0 bel lt0) (trodAll_cons_mk (Below.trod laidOut (by kernel_rfl) (of_decide_eq_true (by kernel_rfl)) k1 bel lt1) (trodAll_cons_mk (Below.trod laidOut (by kernel_rfl) (of_decide_eq_true (by kernel_rfl)) k2 bel lt2) (trodAll_cons_mk (Below.trod laidOut (by kernel_rfl) (of_decide_eq_true (by kernel_rfl)) k3 bel lt3) trodAll_mk0)))), rfl, bel.frame _, fun h => by cases h⟩

theorem band {a b : Bool} (h1 : a = true) (h2 : b = true) : (a && b) = true := by subst h1; subst h2; rfl
set_option maxHeartbeats 4000000 in
/-- The closed facts of the program, each checked by itself. -/
theorem joined : joinedFacts Try.prog 3 Try.f3 Rows.fnExactAfterPairSpec Rows.fnExactAfterPairRow = true := by
  unfold joinedFacts
  repeat' (with_reducible apply band)
  all_goals (as_aux_lemma => kernel_rfl)

theorem over : Rows.fnExactAfterPairRow.holds Try.pinned (OpenSpec.ofChange Rows.fnExactAfterPairSpec) :=
  OpenClaim.holds_of_wide 3 Try.f3 rfl rfl rfl rfl rfl rfl rfl ⟨rfl, rfl, rfl, rfl, rfl⟩ rfl rfl rfl rfl rfl (by as_aux_lemma => kernel_rfl) Try.func3 joined
    (of_decide_eq_true (by as_aux_lemma => kernel_rfl)) (by unfold Func.isWrapper; first | (rw [if_pos (by decide +kernel)]; kernel_rfl) | (rw [if_neg (by decide +kernel)]; exact ⟨rfl, rfl⟩))
    (fun os started H enc _ => lifted os started H enc)

theorem proved : Rows.FnExactAfterPairSaid := over
end Go.Proofs.Ytapjdhdiiciekaa.fnExactAfterPair
