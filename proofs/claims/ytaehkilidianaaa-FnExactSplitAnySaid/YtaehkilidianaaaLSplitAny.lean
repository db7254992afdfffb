/- The statement FnExactSplitAny: the law returns true for every input, and every input reads behind the call as it read before. No condition. -/
import Derived.Test.YtaehkilidianaaaRows
import Derived.Test.YtaehkilidianaaaSplit
import Derived.Test.YtaehkilidianaaaMarkS
namespace Go.Proofs.Ytaehkilidianaaa.fnExactSplitAny
open Go.ChangeShapes Go.WideShapes Go.ChangeAt Go.RowKit Go.Proofs.Ytaehkilidianaaa
open Go.ChangeMaps (open_string shut_string)
set_option linter.unusedVariables false

set_option maxHeartbeats 4000000 in
set_option maxRecDepth 100000 in
theorem law (a0 : ByteArray) (a1 : ByteArray) (w : World) (h0 : a0.size ≤ maxLen) (h1 : a1.size ≤ maxLen) :
    Calls Try.prog 4 #[.string a0, .string a1] w fun e w' => e = .returned (.bool true) ∧ Below w.heap.size w w' := by
  have hm0 := Lib.hid h0; unfold maxLen at h0
  have hm1 := Lib.hid h1; unfold maxLen at h1
  have hd0 := splL_len a0 a1
  obtain ⟨W0, HW0⟩ : ∃ W0, Hid (W0 = w) := ⟨_, rfl⟩
  have BB : Below w.heap.size w W0 := by rw [HW0.out]; exact Below.refl _ _
  by_cases hl0 : a0.size ≤ 1048576
  · skip
    by_cases hl1 : a1.size ≤ 1048576
    · skip
      go_enter Try.func4, Try.ntmps4
      have B : Below W0.heap.size W0 W0 := Below.refl _ _
      go_wp2_with fail
      rw [← HW0.out]
      refine (specSplitAny a0 a1 _ hm0.out hl0 hm1.out hl1).mono ?_; rintro e w1 ⟨u1, rfl, R1, b1⟩
      have sw1 := b1.size
      replace B := B.trans (b1.mono (by omega))
      go_wp2_with fail
      refine (implSplitAny a0 a1 _ hm0.out hl0 hm1.out hl1).mono ?_; rintro e w2 ⟨u2, rfl, R2, b2⟩
      replace R1 := R1.below b2 (by omega)
      have sw2 := b2.size
      replace B := B.trans (b2.mono (by omega))
      go_wp2_with fail
      refine (eqStringS_yes _ _ _ _ R2.strs R1.strs).mono ?_; rintro e w3 ⟨rfl, b3⟩
      replace R1 := R1.below b3 (by omega)
      replace R2 := R2.below b3 (by omega)
      have sw3 := b3.size
      replace B := B.trans (b3.mono (by omega))
      go_wp2_with fail
      refine (markStringS1 _ _ _ (splL a0 a1) _ R2 (by omega) (by omega)).mono ?_; rintro e w4 ⟨rfl, R2, c4⟩
      replace R1 := R1.chg c4 (by omega)
      have sw4 := c4.size
      replace B := B.trans (c4.below (by omega) (by omega))
      go_wp2_with fail
      refine (heldStringS1 _ (splL a0 a1).length _ R2.strs (by omega)).mono ?_; rintro e w5 ⟨rfl, b5⟩
      replace R1 := R1.below b5 (by omega)
      replace R2 := R2.below b5 (by omega)
      have sw5 := b5.size
      replace B := B.trans (b5.mono (by omega))
      have hqm : (((1 : Int) + ((splL a0 a1).length : Int)) != ((1 : Int) + ((splL a0 a1).length : Int))) = false := by simp
      go_wp2_with fail
      refine (implSplitAny a0 a1 _ hm0.out hl0 hm1.out hl1).mono ?_; rintro e w6 ⟨u6, rfl, R6, b6⟩
      replace R1 := R1.below b6 (by omega)
      replace R2 := R2.below b6 (by omega)
      have sw6 := b6.size
      replace B := B.trans (b6.mono (by omega))
      go_wp2_with fail
      refine (eqStringS_yes _ _ _ _ R6.strs R1.strs).mono ?_; rintro e w7 ⟨rfl, b7⟩
      replace R1 := R1.below b7 (by omega)
      replace R2 := R2.below b7 (by omega)
      replace R6 := R6.below b7 (by omega)
      have sw7 := b7.size
      replace B := B.trans (b7.mono (by omega))
      go_wp2_with fail
      refine (heldStringS1 _ (splL a0 a1).length _ R2.strs (by omega)).mono ?_; rintro e w8 ⟨rfl, b8⟩
      replace R1 := R1.below b8 (by omega)
      replace R2 := R2.below b8 (by omega)
      replace R6 := R6.below b8 (by omega)
      have sw8 := b8.size
      replace B := B.trans (b8.mono (by omega))
      have hqm : (((1 : Int) + ((splL a0 a1).length : Int)) != ((1 : Int) + ((splL a0 a1).length : Int))) = false := by simp
      have BE := BB.trans (B.mono BB.size)
      go_wp2
      go_ret
      exact ⟨rfl, BE⟩
    · skip
      go_enter Try.func4, Try.ntmps4
      go_wp2
      go_ret
      exact ⟨rfl, Below.refl _ _⟩
  · skip
    go_enter Try.func4, Try.ntmps4
    go_wp2
    go_ret
    exact ⟨rfl, Below.refl _ _⟩


set_option maxRecDepth 100000 in
theorem lifted (os : Os) (started : os.Started) (H : Type) (enc : TypeId × Value → H) :
    ReturnsInHanded {} Try.checked os 4 .any (Rows.fnExactSplitAnySpec.pre6 enc Try.prog Try.f4 Rows.fnExactSplitAnyRow.domain false) (Rows.fnExactSplitAnySpec.post enc Try.prog Try.f4 false true false false) := by
  refine returnsInHanded_of_change (C := Try.checked) own started (by kernel_rfl) Try.func4
    (ChangeSpec.witness6 (enc := enc) (C := Try.checked) false ⟨#[], #[.string ByteArray.empty, .string ByteArray.empty], []⟩ 8 (by kernel_rfl) (by kernel_rfl) (by kernel_rfl) (by kernel_rfl)) ?_
  intro W base args ds gs before hval0 hW hcnd _
  have hval : ∀ (j : Nat) t v, Try.f4.params[j]? = some t → args[j]? = some v → Value.okWide Try.prog W .any base t v := hval0
  have hW' := hW
  obtain ⟨p, q, hA0, hV, rfl, hfz, hnd⟩ := hW
  have hA : DataW.TrodAll enc Try.prog W 0 (fun _ => true) true Try.f4.params.toList args.toList ds p := hA0
  rw [Try.params4] at hA hval
  obtain ⟨v0, vs0, d0, ds0, p0, q0, hargs, rfl, rfl, h0, r0⟩ := trodAll_cons hA
  obtain ⟨v1, vs1, d1, ds1, p1, q1, rfl, rfl, rfl, h1, r1⟩ := trodAll_cons r0
  obtain ⟨rfl, rfl, rfl⟩ := trodAll_nil r1
  obtain rfl : args = #[v0, v1] := by cases args; simp_all
  obtain ⟨rfl, rfl⟩ := trodVars_none hV
  have k0 := h0
  have lt0 : ∀ x ∈ p0, x.block < W.heap.size := by obtain ⟨m, hm⟩ := k0; exact DataW.trod_lt m _ _ _ hm
  obtain ⟨a0, rfl, hd0, hp0, w0⟩ := open_string Try.underlying9 (hval 0 9 v0 rfl rfl) h0
  have k1 := h1
  have lt1 : ∀ x ∈ p1, x.block < W.heap.size := by obtain ⟨m, hm⟩ := k1; exact DataW.trod_lt m _ _ _ hm
  obtain ⟨a1, rfl, hd1, hp1, w1⟩ := open_string Try.underlying9 (hval 1 9 v1 rfl rfl) h1
  clear hA0 hval0
  refine (law a0 a1 W w0 w1).mono fun e W' ⟨he, bel⟩ => ?_
  subst he
  exact ⟨_, rfl, _, _, _, [], _, [], hW', trodAll_mk1 (shut_bool Try.underlying4 _), (trodAll_cons_mk (Below.trod laidOut (by kernel_rfl) (of_decide_eq_true (by kernel_rfl)) k0 bel lt0) (trodAll_cons_mk (Below.trod laidOut (by kernel_rfl) (of_decide_eq_true (by kernel_rfl)) k1 bel lt1) trodAll_mk0)), rfl, bel.frame _, fun h => by cases h⟩

theorem band {a b : Bool} (h1 : a = true) (h2 : b = true) : (a && b) = true := by subst h1; subst h2; rfl
set_option maxHeartbeats 4000000 in
/-- The closed facts of the program, each checked by itself. -/
theorem joined : joinedFacts Try.prog 4 Try.f4 Rows.fnExactSplitAnySpec Rows.fnExactSplitAnyRow = true := by
  unfold joinedFacts
  repeat' (with_reducible apply band)
  all_goals (as_aux_lemma => kernel_rfl)

theorem over : Rows.fnExactSplitAnyRow.holds Try.pinned (OpenSpec.ofChange Rows.fnExactSplitAnySpec) :=
  OpenClaim.holds_of_wide 4 Try.f4 rfl rfl rfl rfl rfl rfl rfl ⟨rfl, rfl, rfl, rfl, rfl⟩ rfl rfl rfl rfl rfl (by as_aux_lemma => kernel_rfl) Try.func4 joined
    (of_decide_eq_true (by as_aux_lemma => kernel_rfl)) (by unfold Func.isWrapper; first | (rw [if_pos (by decide +kernel)]; kernel_rfl) | (rw [if_neg (by decide +kernel)]; exact ⟨rfl, rfl⟩))
    (fun os started H enc _ => lifted os started H enc)

theorem proved : Rows.FnExactSplitAnySaid := over
end Go.Proofs.Ytaehkilidianaaa.fnExactSplitAny
