/- The statement FnExactMasksOk: the law returns true for every input, and every input reads behind the call as it read before. No condition. -/
import Derived.Test.YtllegpmpibfbcaaRows
import Derived.Test.YtllegpmpibfbcaaMasks
import Derived.Test.YtllegpmpibfbcaaSlice
namespace Go.Proofs.Ytllegpmpibfbcaa.fnExactMasksOk
open Go.ChangeShapes Go.WideShapes Go.ChangeAt Go.RowKit Go.Proofs.Ytllegpmpibfbcaa
open Go.ChangeMaps (open_string shut_string)
set_option linter.unusedVariables false

set_option maxHeartbeats 1000000 in
theorem law (n : Int) (v : Value) (xs : List Int) (w : World) (h0 : (Lit.int .i64 n).wf = true) (I0 : Ints w v xs) :
    Calls Try.prog 9 #[.int .i64 n, v] w fun e w' => e = .returned (.bool true) ∧ Below w.heap.size w w' := by
  clear h0
  have hb : (tf (MasksP n xs) != tf (MasksP n xs)) = false := by simp
  obtain ⟨ao, cap, hv, hcap, hmax, _, _⟩ := id I0
  unfold maxLen at hmax
  by_cases hl : xs.length ≤ 1048576
  · subst hv
    go_enter Try.func9, Try.ntmps9
    go_wp2_with fail
    refine (toIntS _ xs _ I0 hl).mono ?_; rintro e w1 ⟨v1, rfl, R1, b1⟩
    have I1 := I0.keep (Below.keeps b1)
    have s1 := b1.size
    go_wp2_with fail
    refine (specMasksOk n v1 xs _ R1.ints).mono ?_; rintro e w2 ⟨rfl, rfl⟩
    go_wp2_with fail
    refine (toIntS _ xs _ I1 hl).mono ?_; rintro e w2 ⟨v2, rfl, R2, b2⟩
    have I2 := I1.keep (Below.keeps b2)
    have s2 := b2.size
    go_wp2_with fail
    refine (implMasksOk n v2 xs _ R2.ints).mono ?_; rintro e w3 ⟨rfl, rfl⟩
    go_wp2_with fail
    refine (toIntS _ xs _ I2 hl).mono ?_; rintro e w3 ⟨v3, rfl, R3, b3⟩
    have R2 := R2.below b3 (Nat.le_refl _)
    go_wp2_with fail
    refine (eqIntS_yes v2 v3 xs _ R2.ints R3.ints).mono ?_; rintro e w4 ⟨rfl, b4⟩
    have s3 := b3.size
    go_wp2
    go_ret
    exact ⟨rfl, b1.trans ((b2.mono s1).trans ((b3.mono (by omega)).trans (b4.mono (by omega))))⟩
  · subst hv
    go_enter Try.func9, Try.ntmps9
    go_wp2
    go_ret
    exact ⟨rfl, Below.refl _ _⟩


set_option maxRecDepth 100000 in
theorem lifted (os : Os) (started : os.Started) (H : Type) (enc : TypeId × Value → H) :
    ReturnsInHanded {} Try.checked os 9 .any (Rows.fnExactMasksOkSpec.pre6 enc Try.prog Try.f9 Rows.fnExactMasksOkRow.domain false) (Rows.fnExactMasksOkSpec.post enc Try.prog Try.f9 false true false false) := by
  refine returnsInHanded_of_change (C := Try.checked) own started (by kernel_rfl) Try.func9
    (ChangeSpec.witness6 (enc := enc) (C := Try.checked) false ⟨#[], #[.int .i64 0, .slice none 0 0], []⟩ 8 (by kernel_rfl) (by kernel_rfl) (by kernel_rfl) (by kernel_rfl)) ?_
  intro W base args ds gs before hval0 hW hcnd _
  have hval : ∀ (j : Nat) t v, Try.f9.params[j]? = some t → args[j]? = some v → Value.okWide Try.prog W .any base t v := hval0
  have hW' := hW
  obtain ⟨p, q, hA0, hV, rfl, hfz, hnd⟩ := hW
  have hA : DataW.TrodAll enc Try.prog W 0 (fun _ => true) true Try.f9.params.toList args.toList ds p := hA0
  rw [Try.params9] at hA hval
  obtain ⟨v0, vs0, d0, ds0, p0, q0, hargs, rfl, rfl, h0, r0⟩ := trodAll_cons hA
  obtain ⟨v1, vs1, d1, ds1, p1, q1, rfl, rfl, rfl, h1, r1⟩ := trodAll_cons r0
  obtain ⟨rfl, rfl, rfl⟩ := trodAll_nil r1
  obtain rfl : args = #[v0, v1] := by cases args; simp_all
  obtain ⟨rfl, rfl⟩ := trodVars_none hV
  have k0 := h0
  have lt0 : ∀ x ∈ p0, x.block < W.heap.size := by obtain ⟨m, hm⟩ := k0; exact DataW.trod_lt m _ _ _ hm
  obtain ⟨a0, rfl, hd0, hp0, w0⟩ := open_int Try.underlying3 (hval 0 3 v0 rfl rfl) h0
  have k1 := h1
  have lt1 : ∀ x ∈ p1, x.block < W.heap.size := by obtain ⟨m, hm⟩ := k1; exact DataW.trod_lt m _ _ _ hm
  obtain ⟨x1, w1⟩ := Ints.of_trod Try.underlying26 Try.underlying3 cellsInt (hval 1 26 v1 rfl rfl) h1
  clear hA0 hval0
  refine (law a0 v1 x1 W w0 w1).mono fun e W' ⟨he, bel⟩ => ?_
  subst he
  exact ⟨_, rfl, _, _, _, [], _, [], hW', trodAll_mk1 (shut_bool Try.underlying4 _), (trodAll_cons_mk (Below.trod laidOut (by kernel_rfl) (of_decide_eq_true (by kernel_rfl)) k0 bel lt0) (trodAll_cons_mk (Below.trod laidOut (by kernel_rfl) (of_decide_eq_true (by kernel_rfl)) k1 bel lt1) trodAll_mk0)), rfl, bel.frame _, fun h => by cases h⟩

theorem over : Rows.fnExactMasksOkRow.holds Try.pinned (OpenSpec.ofChange Rows.fnExactMasksOkSpec) :=
  OpenClaim.holds_of_wide 9 Try.f9 rfl rfl rfl rfl rfl rfl rfl ⟨rfl, rfl, rfl, rfl, rfl⟩ rfl rfl rfl rfl rfl (by kernel_rfl) Try.func9 (by kernel_rfl)
    (of_decide_eq_true (by kernel_rfl)) (by unfold Func.isWrapper; first | (rw [if_pos (by decide +kernel)]; kernel_rfl) | (rw [if_neg (by decide +kernel)]; exact ⟨rfl, rfl⟩))
    (fun os started H enc _ => lifted os started H enc)

theorem proved : Rows.FnExactMasksOkSaid := over
end Go.Proofs.Ytllegpmpibfbcaa.fnExactMasksOk
