/- The statement FnExactIsWithin: the law returns true for every input, and every input reads behind the call as it read before. No condition. -/
import Derived.Test.YtllegpmpibfbcaaRows
import Derived.Test.YtllegpmpibfbcaaWithin
import Derived.Test.YtllegpmpibfbcaaSlice
namespace Go.Proofs.Ytllegpmpibfbcaa.fnExactIsWithin
open Go.ChangeShapes Go.WideShapes Go.ChangeAt Go.RowKit Go.Proofs.Ytllegpmpibfbcaa
open Go.ChangeMaps (open_string shut_string)
set_option linter.unusedVariables false

set_option maxHeartbeats 1000000 in
theorem law (v : Value) (xs : List Int) (u : Value) (ys : List Int) (w : World) (I0 : Ints w v xs) (J0 : Ints w u ys) :
    Calls Try.prog 7 #[v, u] w fun e w' => e = .returned (.bool true) ∧ Below w.heap.size w w' := by
  have hb : (tf (Within xs ys) != tf (Within xs ys)) = false := by simp
  obtain ⟨ao, cap, hv, hcap, hmax, _, _⟩ := id I0
  obtain ⟨ao2, cap2, hv2, hcap2, hmax2, _, _⟩ := id J0
  unfold maxLen at hmax hmax2
  subst hv hv2
  by_cases hl : xs.length ≤ 1048576
  · by_cases hl2 : ys.length ≤ 1048576
    · go_enter Try.func7, Try.ntmps7
      go_wp2_with fail
      refine (toIntS _ xs _ I0 hl).mono ?_; rintro e w1 ⟨v1, rfl, R1, b1⟩
      have I0 := I0.keep (Below.keeps b1); have J0 := J0.keep (Below.keeps b1)
      have B := b1; have s1 := b1.size
      go_wp2_with fail
      refine (toIntS _ ys _ J0 hl2).mono ?_; rintro e w2 ⟨v2, rfl, R2, b2⟩
      have I0 := I0.keep (Below.keeps b2); have J0 := J0.keep (Below.keeps b2)
      have R1 := R1.below b2 (Nat.le_refl _)
      have B := B.trans (b2.mono B.size); have s2 := b2.size
      go_wp2_with fail
      refine (specIsWithin v1 v2 xs ys _ R1.ints R2.ints).mono ?_; rintro e w3 ⟨rfl, b3⟩
      have I0 := I0.keep (Below.keeps b3); have J0 := J0.keep (Below.keeps b3)
      have B := B.trans (b3.mono B.size); have s3 := b3.size
      clear R1 R2
      go_wp2_with fail
      refine (toIntS _ xs _ I0 hl).mono ?_; rintro e w4 ⟨v4, rfl, R4, b4⟩
      have I0 := I0.keep (Below.keeps b4); have J0 := J0.keep (Below.keeps b4)
      have B := B.trans (b4.mono B.size); have s4 := b4.size
      go_wp2_with fail
      refine (toIntS _ ys _ J0 hl2).mono ?_; rintro e w5 ⟨v5, rfl, R5, b5⟩
      have I0 := I0.keep (Below.keeps b5); have J0 := J0.keep (Below.keeps b5)
      have R4 := R4.below b5 (Nat.le_refl _)
      have B := B.trans (b5.mono B.size); have s5 := b5.size
      go_wp2_with fail
      refine (implIsWithin v4 v5 xs ys _ R4.ints R5.ints hl2).mono ?_; rintro e w6 ⟨rfl, b6⟩
      have I0 := I0.keep (Below.keeps b6); have J0 := J0.keep (Below.keeps b6)
      have R4 := R4.below b6 (by omega); have R5 := R5.below b6 (by omega)
      have B := B.trans (b6.mono B.size); have s6 := b6.size
      go_wp2_with fail
      refine (toIntS _ xs _ I0 hl).mono ?_; rintro e w7 ⟨v7, rfl, R7, b7⟩
      have J0 := J0.keep (Below.keeps b7)
      have R4 := R4.below b7 (by omega); have R5 := R5.below b7 (by omega)
      have B := B.trans (b7.mono B.size); have s7 := b7.size
      go_wp2_with fail
      refine (eqIntS_yes v4 v7 xs _ R4.ints R7.ints).mono ?_; rintro e w8 ⟨rfl, b8⟩
      have J0 := J0.keep (Below.keeps b8)
      have R5 := R5.below b8 (by omega)
      have B := B.trans (b8.mono B.size); have s8 := b8.size
      go_wp2_with fail
      refine (toIntS _ ys _ J0 hl2).mono ?_; rintro e w9 ⟨v9, rfl, R9, b9⟩
      have R5 := R5.below b9 (by omega)
      have B := B.trans (b9.mono B.size)
      go_wp2_with fail
      refine (eqIntS_yes v5 v9 ys _ R5.ints R9.ints).mono ?_; rintro e w10 ⟨rfl, b10⟩
      have B := B.trans (b10.mono B.size)
      go_wp2
      go_ret
      exact ⟨rfl, B⟩
    · go_enter Try.func7, Try.ntmps7
      go_wp2
      go_ret
      exact ⟨rfl, Below.refl _ _⟩
  · go_enter Try.func7, Try.ntmps7
    go_wp2
    go_ret
    exact ⟨rfl, Below.refl _ _⟩


set_option maxRecDepth 100000 in
theorem lifted (os : Os) (started : os.Started) (H : Type) (enc : TypeId × Value → H) :
    ReturnsInHanded {} Try.checked os 7 .any (Rows.fnExactIsWithinSpec.pre6 enc Try.prog Try.f7 Rows.fnExactIsWithinRow.domain false) (Rows.fnExactIsWithinSpec.post enc Try.prog Try.f7 false true false false) := by
  refine returnsInHanded_of_change (C := Try.checked) own started (by kernel_rfl) Try.func7
    (ChangeSpec.witness6 (enc := enc) (C := Try.checked) false ⟨#[], #[.slice none 0 0, .slice none 0 0], []⟩ 8 (by kernel_rfl) (by kernel_rfl) (by kernel_rfl) (by kernel_rfl)) ?_
  intro W base args ds gs before hval0 hW hcnd _
  have hval : ∀ (j : Nat) t v, Try.f7.params[j]? = some t → args[j]? = some v → Value.okWide Try.prog W .any base t v := hval0
  have hW' := hW
  obtain ⟨p, q, hA0, hV, rfl, hfz, hnd⟩ := hW
  have hA : DataW.TrodAll enc Try.prog W 0 (fun _ => true) true Try.f7.params.toList args.toList ds p := hA0
  rw [Try.params7] at hA hval
  obtain ⟨v0, vs0, d0, ds0, p0, q0, hargs, rfl, rfl, h0, r0⟩ := trodAll_cons hA
  obtain ⟨v1, vs1, d1, ds1, p1, q1, rfl, rfl, rfl, h1, r1⟩ := trodAll_cons r0
  obtain ⟨rfl, rfl, rfl⟩ := trodAll_nil r1
  obtain rfl : args = #[v0, v1] := by cases args; simp_all
  obtain ⟨rfl, rfl⟩ := trodVars_none hV
  have k0 := h0
  have lt0 : ∀ x ∈ p0, x.block < W.heap.size := by obtain ⟨m, hm⟩ := k0; exact DataW.trod_lt m _ _ _ hm
  obtain ⟨x0, w0⟩ := Ints.of_trod Try.underlying26 Try.underlying3 cellsInt (hval 0 26 v0 rfl rfl) h0
  have k1 := h1
  have lt1 : ∀ x ∈ p1, x.block < W.heap.size := by obtain ⟨m, hm⟩ := k1; exact DataW.trod_lt m _ _ _ hm
  obtain ⟨x1, w1⟩ := Ints.of_trod Try.underlying26 Try.underlying3 cellsInt (hval 1 26 v1 rfl rfl) h1
  clear hA0 hval0
  refine (law v0 x0 v1 x1 W w0 w1).mono fun e W' ⟨he, bel⟩ => ?_
  subst he
  exact ⟨_, rfl, _, _, _, [], _, [], hW', trodAll_mk1 (shut_bool Try.underlying4 _), (trodAll_cons_mk (Below.trod laidOut (by kernel_rfl) (of_decide_eq_true (by kernel_rfl)) k0 bel lt0) (trodAll_cons_mk (Below.trod laidOut (by kernel_rfl) (of_decide_eq_true (by kernel_rfl)) k1 bel lt1) trodAll_mk0)), rfl, bel.frame _, fun h => by cases h⟩

theorem over : Rows.fnExactIsWithinRow.holds Try.pinned (OpenSpec.ofChange Rows.fnExactIsWithinSpec) :=
  OpenClaim.holds_of_wide 7 Try.f7 rfl rfl rfl rfl rfl rfl rfl ⟨rfl, rfl, rfl, rfl, rfl⟩ rfl rfl rfl rfl rfl (by kernel_rfl) Try.func7 (by kernel_rfl)
    (of_decide_eq_true (by kernel_rfl)) (by unfold Func.isWrapper; first | (rw [if_pos (by decide +kernel)]; kernel_rfl) | (rw [if_neg (by decide +kernel)]; exact ⟨rfl, rfl⟩))
    (fun os started H enc _ => lifted os started H enc)

theorem proved : Rows.FnExactIsWithinSaid := over
end Go.Proofs.Ytllegpmpibfbcaa.fnExactIsWithin
