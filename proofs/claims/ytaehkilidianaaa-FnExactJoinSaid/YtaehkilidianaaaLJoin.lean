/- The statement FnExactJoin: the law returns true for every input, and every input reads behind the call as it read before. No condition. -/
import Derived.Test.YtaehkilidianaaaRows
import Derived.Test.YtaehkilidianaaaJoinS
namespace Go.Proofs.Ytaehkilidianaaa.fnExactJoin
open Go.ChangeShapes Go.WideShapes Go.ChangeAt Go.RowKit Go.Proofs.Ytaehkilidianaaa
open Go.ChangeMaps (open_string shut_string)
set_option linter.unusedVariables false

set_option maxHeartbeats 4000000 in
set_option maxRecDepth 100000 in
theorem law (v0 : Value) (x0 : List ByteArray) (a1 : ByteArray) (w : World) (I0 : Strs w v0 x0) (h1 : a1.size ≤ maxLen) :
    Calls Try.prog 3 #[v0, .string a1] w fun e w' => e = .returned (.bool true) ∧ Below w.heap.size w w' := by
  obtain ⟨ao0, cap0, hv0, hcap0, hmax0, hnil0, hcell0⟩ := id I0
  clear hnil0 hcell0
  unfold maxLen at hmax0
  have hm1 := Lib.hid h1; unfold maxLen at h1
  obtain ⟨W0, HW0⟩ : ∃ W0, Hid (W0 = w) := ⟨_, rfl⟩
  have BB : Below w.heap.size w W0 := by rw [HW0.out]; exact Below.refl _ _
  have I0 := I0.keep (Below.keeps BB)
  subst hv0
  by_cases hl1 : a1.size ≤ 1048576
  · skip
    by_cases hg0 : ((x0.length + sumSize x0 : Nat) : Int) ≤ 1048576
    · skip
      have hs0 : 0 ≤ szT x0 1048576 ∧ szT x0 1048576 ≤ 1048576 := by unfold szT; rw [if_pos hg0]; omega
      have ht0 := hs0.1; have hu0 := hs0.2; clear hs0
      have hl0 : x0.length + sumSize x0 ≤ 1048576 := by omega
      have hq0 : decide ((szT x0 1048576) < 0) = false := decide_eq_false (by omega)
      go_enter Try.func3, Try.ntmps3
      have B : Below W0.heap.size W0 W0 := Below.refl _ _
      go_wp2_with fail
      rw [← HW0.out]
      refine (szStringS _ x0 1048576 _ (I0.keep (Below.keeps B)) (by omega) (by omega)).mono ?_; rintro e wz0 ⟨rfl, bz0⟩
      have swz0 := bz0.size; have B := B.trans (bz0.mono (by omega))
      go_wp2_with fail
      refine (toStringS _ x0 _ (I0.keep (Below.keeps B)) (by omega)).mono ?_; rintro e w1 ⟨u1, rfl, R1, b1⟩
      have sw1 := b1.size
      replace B := B.trans (b1.mono (by omega))
      go_wp2_with fail
      refine (specJoin _ x0 a1 _ R1.strs hl0 hm1.out hl1).mono ?_; rintro e w2 ⟨rfl, b2⟩
      replace R1 := R1.below b2 (by omega)
      have sw2 := b2.size
      replace B := B.trans (b2.mono (by omega))
      clear R1
      go_wp2_with fail
      refine (toStringS _ x0 _ (I0.keep (Below.keeps B)) (by omega)).mono ?_; rintro e w3 ⟨u3, rfl, R3, b3⟩
      have sw3 := b3.size
      replace B := B.trans (b3.mono (by omega))
      go_wp2_with fail
      refine (implJoin _ x0 a1 _ R3.strs hl0 hm1.out hl1).mono ?_; rintro e w4 ⟨rfl, b4⟩
      replace R3 := R3.below b4 (by omega)
      have sw4 := b4.size
      replace B := B.trans (b4.mono (by omega))
      go_wp2_with fail
      refine (toStringS _ x0 _ (I0.keep (Below.keeps B)) (by omega)).mono ?_; rintro e w5 ⟨u5, rfl, R5, b5⟩
      replace R3 := R3.below b5 (by omega)
      have sw5 := b5.size
      replace B := B.trans (b5.mono (by omega))
      go_wp2_with fail
      refine (eqStringS_yes _ _ _ _ R3.strs R5.strs).mono ?_; rintro e w6 ⟨rfl, b6⟩
      replace R3 := R3.below b6 (by omega)
      replace R5 := R5.below b6 (by omega)
      have sw6 := b6.size
      replace B := B.trans (b6.mono (by omega))
      clear R5
      have BE := BB.trans (B.mono BB.size)
      go_wp2
      go_ret
      exact ⟨rfl, BE⟩
    · skip
      have hs0 : szT x0 1048576 < 0 := by unfold szT; rw [if_neg hg0]; omega
      go_enter Try.func3, Try.ntmps3
      have B : Below W0.heap.size W0 W0 := Below.refl _ _
      go_wp2_with fail
      rw [← HW0.out]
      refine (szStringS _ x0 1048576 _ (I0.keep (Below.keeps B)) (by omega) (by omega)).mono ?_; rintro e w1 ⟨rfl, b1⟩
      have B := B.trans (b1.mono (by omega)); have sw1 := b1.size
      have BE := BB.trans (B.mono BB.size)
      go_wp2
      go_ret
      exact ⟨rfl, BE⟩
  · skip
    go_enter Try.func3, Try.ntmps3
    go_wp2
    go_ret
    exact ⟨rfl, Below.refl _ _⟩


set_option maxRecDepth 100000 in
theorem lifted (os : Os) (started : os.Started) (H : Type) (enc : TypeId × Value → H) :
    ReturnsInHanded {} Try.checked os 3 .any (Rows.fnExactJoinSpec.pre6 enc Try.prog Try.f3 Rows.fnExactJoinRow.domain false) (Rows.fnExactJoinSpec.post enc Try.prog Try.f3 false true false false) := by
  refine returnsInHanded_of_change (C := Try.checked) own started (by kernel_rfl) Try.func3
    (ChangeSpec.witness6 (enc := enc) (C := Try.checked) false ⟨#[], #[.slice none 0 0, .string ByteArray.empty], []⟩ 8 (by kernel_rfl) (by kernel_rfl) (by kernel_rfl) (by kernel_rfl)) ?_
  intro W base args ds gs before hval0 hW hcnd _
  have hval : ∀ (j : Nat) t v, Try.f3.params[j]? = some t → args[j]? = some v → Value.okWide Try.prog W .any base t v := hval0
  have hW' := hW
  obtain ⟨p, q, hA0, hV, rfl, hfz, hnd⟩ := hW
  have hA : DataW.TrodAll enc Try.prog W 0 (fun _ => true) true Try.f3.params.toList args.toList ds p := hA0
  rw [Try.params3] at hA hval
  obtain ⟨v0, vs0, d0, ds0, p0, q0, hargs, rfl, rfl, h0, r0⟩ := trodAll_cons hA
  obtain ⟨v1, vs1, d1, ds1, p1, q1, rfl, rfl, rfl, h1, r1⟩ := trodAll_cons r0
  obtain ⟨rfl, rfl, rfl⟩ := trodAll_nil r1
  obtain rfl : args = #[v0, v1] := by cases args; simp_all
  obtain ⟨rfl, rfl⟩ := trodVars_none hV
  have k0 := h0
  have lt0 : ∀ x ∈ p0, x.block < W.heap.size := by obtain ⟨m, hm⟩ := k0; exact DataW.trod_lt m _ _ _ hm
  obtain ⟨x0, w0⟩ := Strs.of_trod Try.underlying22 Try.underlying9 cellsStr (hval 0 22 v0 rfl rfl) h0
  have k1 := h1
  have lt1 : ∀ x ∈ p1, x.block < W.heap.size := by obtain ⟨m, hm⟩ := k1; exact DataW.trod_lt m _ _ _ hm
  obtain ⟨a1, rfl, hd1, hp1, w1⟩ := open_string Try.underlying9 (hval 1 9 v1 rfl rfl) h1
  clear hA0 hval0
  refine (law v0 x0 a1 W w0 w1).mono fun e W' ⟨he, bel⟩ => ?_
  subst he
  exact ⟨_, rfl, _, _, _, [], _, [], hW', trodAll_mk1 (shut_bool Try.underlying4 _), (trodAll_cons_mk (Below.trod laidOut (by kernel_rfl) (of_decide_eq_true (by kernel_rfl)) k0 bel lt0) (trodAll_cons_mk (Below.trod laidOut (by kernel_rfl) (of_decide_eq_true (by kernel_rfl)) k1 bel lt1) trodAll_mk0)), rfl, bel.frame _, fun h => by cases h⟩

theorem band {a b : Bool} (h1 : a = true) (h2 : b = true) : (a && b) = true := by subst h1; subst h2; rfl
set_option maxHeartbeats 4000000 in
/-- The closed facts of the program, each checked by itself. -/
theorem joined : joinedFacts Try.prog 3 Try.f3 Rows.fnExactJoinSpec Rows.fnExactJoinRow = true := by
  unfold joinedFacts
  repeat' (with_reducible apply band)
  all_goals (as_aux_lemma => kernel_rfl)

theorem over : Rows.fnExactJoinRow.holds Try.pinned (OpenSpec.ofChange Rows.fnExactJoinSpec) :=
  OpenClaim.holds_of_wide 3 Try.f3 rfl rfl rfl rfl rfl rfl rfl ⟨rfl, rfl, rfl, rfl, rfl⟩ rfl rfl rfl rfl rfl (by as_aux_lemma => kernel_rfl) Try.func3 joined
    (of_decide_eq_true (by as_aux_lemma => kernel_rfl)) (by unfold Func.isWrapper; first | (rw [if_pos (by decide +kernel)]; kernel_rfl) | (rw [if_neg (by decide +kernel)]; exact ⟨rfl, rfl⟩))
    (fun os started H enc _ => lifted os started H enc)

theorem proved : Rows.FnExactJoinSaid := over
end Go.Proofs.Ytaehkilidianaaa.fnExactJoin
