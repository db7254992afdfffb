/- The statement FnExactFitsInto: the law returns true for every input, and every input reads behind the call as it read before. No condition. -/
import Derived.Test.YtalkcpfahefajaaRows
import Derived.Test.YtalkcpfahefajaaFits2
import Derived.Test.YtalkcpfahefajaaNetB
import Derived.Test.YtalkcpfahefajaaMark
namespace Go.Proofs.Ytalkcpfahefajaa.fnExactFitsInto
open Go.ChangeShapes Go.WideShapes Go.ChangeAt Go.RowKit Go.Proofs.Ytalkcpfahefajaa
open Go.ChangeMaps (open_string shut_string)
set_option linter.unusedVariables false

set_option maxHeartbeats 4000000 in
set_option maxRecDepth 100000 in
theorem law (a0 : Int) (v1 : Value) (x1 : List Int) (v2 : Value) (x2 : List Int) (w : World) (h0 : (Lit.int .i64 a0).wf = true) (I1 : Ints w v1 x1) (I2 : Ints w v2 x2) :
    Calls Try.prog 4 #[.int .i64 a0, v1, v2] w fun e w' => e = .returned (.bool true) ∧ Below w.heap.size w w' := by
  have hw0 := Lib.hid h0; clear h0
  obtain ⟨ao1, cap1, hv1, hcap1, hmax1, hnil1, hcell1⟩ := id I1
  clear hnil1 hcell1
  unfold maxLen at hmax1
  obtain ⟨ao2, cap2, hv2, hcap2, hmax2, hnil2, hcell2⟩ := id I2
  clear hnil2 hcell2
  unfold maxLen at hmax2
  have hb0 : (tf (FitsP a0 x1 x2) != tf (FitsP a0 x1 x2)) = false := by simp
  obtain ⟨W0, HW0⟩ : ∃ W0, Hid (W0 = w) := ⟨_, rfl⟩
  have BB : Below w.heap.size w W0 := by rw [HW0.out]; exact Below.refl _ _
  have I1 := I1.keep (Below.keeps BB)
  have I2 := I2.keep (Below.keeps BB)
  subst hv1
  subst hv2
  by_cases hl1 : x1.length ≤ 1048576
  · skip
    by_cases hl2 : x2.length ≤ 1048576
    · skip
      go_enter Try.func4, Try.ntmps4
      have B : Below W0.heap.size W0 W0 := Below.refl _ _
      go_wp2_with fail
      rw [← HW0.out]
      refine (toIntS _ x1 _ (I1.keep (Below.keeps B)) hl1).mono ?_; rintro e w1 ⟨u1, rfl, R1, b1⟩
      have sw1 := b1.size
      replace B := B.trans (b1.mono (by omega))
      go_wp2_with fail
      refine (toIntS _ x2 _ (I2.keep (Below.keeps B)) hl2).mono ?_; rintro e w2 ⟨u2, rfl, R2, b2⟩
      replace R1 := R1.below b2 (by omega)
      have sw2 := b2.size
      replace B := B.trans (b2.mono (by omega))
      go_wp2_with fail
      refine (specFitsInto a0 _ x1 _ x2 _ hw0.out R1.ints hl1 R2.ints hl2).mono ?_; rintro e w3 ⟨rfl, b3⟩
      replace R1 := R1.below b3 (by omega)
      replace R2 := R2.below b3 (by omega)
      have sw3 := b3.size
      replace B := B.trans (b3.mono (by omega))
      clear R1
      clear R2
      go_wp2_with fail
      refine (toIntS _ x1 _ (I1.keep (Below.keeps B)) hl1).mono ?_; rintro e w4 ⟨u4, rfl, R4, b4⟩
      have sw4 := b4.size
      replace B := B.trans (b4.mono (by omega))
      go_wp2_with fail
      refine (toIntS _ x2 _ (I2.keep (Below.keeps B)) hl2).mono ?_; rintro e w5 ⟨u5, rfl, R5, b5⟩
      replace R4 := R4.below b5 (by omega)
      have sw5 := b5.size
      replace B := B.trans (b5.mono (by omega))
      go_wp2_with fail
      refine (implFitsInto a0 _ x1 _ x2 _ hw0.out R4.ints hl1 R5.ints hl2).mono ?_; rintro e w6 ⟨rfl, b6⟩
      replace R4 := R4.below b6 (by omega)
      replace R5 := R5.below b6 (by omega)
      have sw6 := b6.size
      replace B := B.trans (b6.mono (by omega))
      go_wp2_with fail
      refine (toIntS _ x1 _ (I1.keep (Below.keeps B)) hl1).mono ?_; rintro e w7 ⟨u7, rfl, R7, b7⟩
      replace R4 := R4.below b7 (by omega)
      replace R5 := R5.below b7 (by omega)
      have sw7 := b7.size
      replace B := B.trans (b7.mono (by omega))
      go_wp2_with fail
      refine (eqIntS_yes _ _ _ _ R4.ints R7.ints).mono ?_; rintro e w8 ⟨rfl, b8⟩
      replace R4 := R4.below b8 (by omega)
      replace R5 := R5.below b8 (by omega)
      replace R7 := R7.below b8 (by omega)
      have sw8 := b8.size
      replace B := B.trans (b8.mono (by omega))
      clear R7
      go_wp2_with fail
      refine (toIntS _ x2 _ (I2.keep (Below.keeps B)) hl2).mono ?_; rintro e w9 ⟨u9, rfl, R9, b9⟩
      replace R4 := R4.below b9 (by omega)
      replace R5 := R5.below b9 (by omega)
      have sw9 := b9.size
      replace B := B.trans (b9.mono (by omega))
      go_wp2_with fail
      refine (eqIntS_yes _ _ _ _ R5.ints R9.ints).mono ?_; rintro e w10 ⟨rfl, b10⟩
      replace R4 := R4.below b10 (by omega)
      replace R5 := R5.below b10 (by omega)
      replace R9 := R9.below b10 (by omega)
      have sw10 := b10.size
      replace B := B.trans (b10.mono (by omega))
      clear R9
      have BE := BB.trans (B.mono BB.size)
      go_wp2
      go_ret
      exact ⟨rfl, BE⟩
    · skip
      go_enter Try.func4, Try.ntmps4
      go_wp2
      go_ret
      exact ⟨rfl, Below.refl _ _⟩
  · skip
    go_enter Try.func4, Try.ntmps4
    go_wp2
    go_ret
    exact ⟨rfl, Below.refl _ _⟩


set_option maxRecDepth 100000 in
theorem lifted (os : Os) (started : os.Started) (H : Type) (enc : TypeId × Value → H) :
    ReturnsInHanded {} Try.checked os 4 .any (Rows.fnExactFitsIntoSpec.pre6 enc Try.prog Try.f4 Rows.fnExactFitsIntoRow.domain false) (Rows.fnExactFitsIntoSpec.post enc Try.prog Try.f4 false true false false) := by
  refine returnsInHanded_of_change (C := Try.checked) own started (by kernel_rfl) Try.func4
    (ChangeSpec.witness6 (enc := enc) (C := Try.checked) false ⟨#[], #[.int .i64 0, .slice none 0 0, .slice none 0 0], []⟩ 8 (by kernel_rfl) (by kernel_rfl) (by kernel_rfl) (by kernel_rfl)) ?_
  intro W base args ds gs before hval0 hW hcnd _
  have hval : ∀ (j : Nat) t v, Try.f4.params[j]? = some t → args[j]? = some v → Value.okWide Try.prog W .any base t v := hval0
  have hW' := hW
  obtain ⟨p, q, hA0, hV, rfl, hfz, hnd⟩ := hW
  have hA : DataW.TrodAll enc Try.prog W 0 (fun _ => true) true Try.f4.params.toList args.toList ds p := hA0
  rw [Try.params4] at hA hval
  obtain ⟨v0, vs0, d0, ds0, p0, q0, hargs, rfl, rfl, h0, r0⟩ := trodAll_cons hA
  obtain ⟨v1, vs1, d1, ds1, p1, q1, rfl, rfl, rfl, h1, r1⟩ := trodAll_cons r0
  obtain ⟨v2, vs2, d2, ds2, p2, q2, rfl, rfl, rfl, h2, r2⟩ := trodAll_cons r1
  obtain ⟨rfl, rfl, rfl⟩ := trodAll_nil r2
  obtain rfl : args = #[v0, v1, v2] := by cases args; simp_all
  obtain ⟨rfl, rfl⟩ := trodVars_none hV
  have k0 := h0
  have lt0 : ∀ x ∈ p0, x.block < W.heap.size := by obtain ⟨m, hm⟩ := k0; exact DataW.trod_lt m _ _ _ hm
  obtain ⟨a0, rfl, hd0, hp0, w0⟩ := open_int Try.underlying3 (hval 0 3 v0 rfl rfl) h0
  have k1 := h1
  have lt1 : ∀ x ∈ p1, x.block < W.heap.size := by obtain ⟨m, hm⟩ := k1; exact DataW.trod_lt m _ _ _ hm
  obtain ⟨x1, w1⟩ := Ints.of_trod Try.underlying34 Try.underlying3 cellsInt (hval 1 34 v1 rfl rfl) h1
  have k2 := h2
  have lt2 : ∀ x ∈ p2, x.block < W.heap.size := by obtain ⟨m, hm⟩ := k2; exact DataW.trod_lt m _ _ _ hm
  obtain ⟨x2, w2⟩ := Ints.of_trod Try.underlying34 Try.underlying3 cellsInt (hval 2 34 v2 rfl rfl) h2
  clear hA0 hval0
  refine (law a0 v1 x1 v2 x2 W w0 w1 w2).mono fun e W' ⟨he, bel⟩ => ?_
  subst he
  exact ⟨_, rfl, _, _, _, [], _, [], hW', trodAll_mk1 (shut_bool Try.underlying4 _), (trodAll_cons_mk (Below.trod laidOut (by kernel_rfl) (of_decide_eq_true (by kernel_rfl)) k0 bel lt0) (trodAll_cons_mk (Below.trod laidOut (by kernel_rfl) (of_decide_eq_true (by kernel_rfl)) k1 bel lt1) (trodAll_cons_mk (Below.trod laidOut (by kernel_rfl) (of_decide_eq_true (by kernel_rfl)) k2 bel lt2) trodAll_mk0))), rfl, bel.frame _, fun h => by cases h⟩

theorem band {a b : Bool} (h1 : a = true) (h2 : b = true) : (a && b) = true := by subst h1; subst h2; rfl
set_option maxHeartbeats 4000000 in
/-- The closed facts of the program, each checked by itself. -/
theorem joined : joinedFacts Try.prog 4 Try.f4 Rows.fnExactFitsIntoSpec Rows.fnExactFitsIntoRow = true := by
  unfold joinedFacts
  repeat' (with_reducible apply band)
  all_goals (as_aux_lemma => kernel_rfl)

theorem over : Rows.fnExactFitsIntoRow.holds Try.pinned (OpenSpec.ofChange Rows.fnExactFitsIntoSpec) :=
  OpenClaim.holds_of_wide 4 Try.f4 rfl rfl rfl rfl rfl rfl rfl ⟨rfl, rfl, rfl, rfl, rfl⟩ rfl rfl rfl rfl rfl (by as_aux_lemma => kernel_rfl) Try.func4 joined
    (of_decide_eq_true (by as_aux_lemma => kernel_rfl)) (by unfold Func.isWrapper; first | (rw [if_pos (by decide +kernel)]; kernel_rfl) | (rw [if_neg (by decide +kernel)]; exact ⟨rfl, rfl⟩))
    (fun os started H enc _ => lifted os started H enc)

theorem proved : Rows.FnExactFitsIntoSaid := over
end Go.Proofs.Ytalkcpfahefajaa.fnExactFitsInto
