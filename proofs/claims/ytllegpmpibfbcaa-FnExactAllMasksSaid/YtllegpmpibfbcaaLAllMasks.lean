/- The statement FnExactAllMasks: the law returns true for every input, and every input reads behind the call as it read before. No condition. -/
import Derived.Test.YtllegpmpibfbcaaRows
import Derived.Test.YtllegpmpibfbcaaAllMasks
namespace Go.Proofs.Ytllegpmpibfbcaa.fnExactAllMasks
open Go.ChangeShapes Go.WideShapes Go.ChangeAt Go.RowKit Go.Proofs.Ytllegpmpibfbcaa
open Go.ChangeMaps (open_string shut_string)
set_option linter.unusedVariables false

set_option maxHeartbeats 1000000 in
theorem law (n : Int) (w : World) (h0 : (Lit.int .i64 n).wf = true) :
    Calls Try.prog 10 #[.int .i64 n] w fun e w' => e = .returned (.bool true) ∧ Below w.heap.size w w' := by
  clear h0
  obtain ⟨xs, HX⟩ : ∃ xs, Hid (allN n = xs) := ⟨_, rfl⟩
  have hl : xs.length ≤ 256 := by rw [← HX.out]; exact allN_le n
  have hq : ((1 : Int) + (xs.length : Int) != 1 + (xs.length : Int)) = false := by simp
  have cS := fun w => specAllMasks n w
  have cI := fun w => implAllMasks n w
  rw [HX.out] at cS cI
  have CS := Lib.hid cS; have CI := Lib.hid cI; clear cS cI
  go_enter Try.func10, Try.ntmps10
  go_wp2_with fail
  refine (CS.out _).mono ?_; rintro e w1 ⟨v0, rfl, R0, b0⟩
  go_wp2_with fail
  refine (CI.out _).mono ?_; rintro e w2 ⟨v1, rfl, R1, b1⟩
  have R0 := R0.below b1 (Nat.le_refl _)
  have s1 := b0.size; have s2 := b1.size
  go_wp2_with fail
  refine (eqIntS_yes v1 v0 xs _ R1.ints R0.ints).mono ?_; rintro e w3 ⟨rfl, b2⟩
  have s3 := b2.size
  have R0 := R0.below b2 s2
  have R1 := R1.below b2 (Nat.le_refl _)
  go_wp2_with fail
  refine (markIntS _ _ v1 xs 1 _ R1 (by omega) (by omega)).mono ?_; rintro e w4 ⟨rfl, R1, c4⟩
  have s4 := c4.size
  have R0 := R0.chg c4 (.inl (Nat.le_refl _))
  go_wp2_with fail
  refine (heldIntS v1 xs.length 1 _ R1.ints (by omega) (by omega)).mono ?_; rintro e w5 ⟨rfl, b5⟩
  have s5 := b5.size
  have R0 := R0.below b5 (by omega)
  have R1 := R1.below b5 (by omega)
  go_wp2_with fail
  refine (CI.out _).mono ?_; rintro e w6 ⟨v6, rfl, R6, b6⟩
  have s6 := b6.size
  have R0 := R0.below b6 (by omega)
  have R1 := R1.below b6 (by omega)
  go_wp2_with fail
  refine (eqIntS_yes v6 v0 xs _ R6.ints R0.ints).mono ?_; rintro e w7 ⟨rfl, b7⟩
  have s7 := b7.size
  have R1 := R1.below b7 (by omega)
  go_wp2_with fail
  refine (heldIntS v1 xs.length 1 _ R1.ints (by omega) (by omega)).mono ?_; rintro e w8 ⟨rfl, b8⟩
  go_wp2
  go_ret
  have b4 : Below w.heap.size w3 w4 := c4.below (by omega) (by omega)
  exact ⟨rfl, b0.trans ((b1.mono s1).trans ((b2.mono (by omega)).trans (b4.trans ((b5.mono (by omega)).trans ((b6.mono (by omega)).trans ((b7.mono (by omega)).trans (b8.mono (by omega))))))))⟩


set_option maxRecDepth 100000 in
theorem lifted (os : Os) (started : os.Started) (H : Type) (enc : TypeId × Value → H) :
    ReturnsInHanded {} Try.checked os 10 .any (Rows.fnExactAllMasksSpec.pre6 enc Try.prog Try.f10 Rows.fnExactAllMasksRow.domain false) (Rows.fnExactAllMasksSpec.post enc Try.prog Try.f10 false true false false) := by
  refine returnsInHanded_of_change (C := Try.checked) own started (by kernel_rfl) Try.func10
    (ChangeSpec.witness6 (enc := enc) (C := Try.checked) false ⟨#[], #[.int .i64 0], []⟩ 8 (by kernel_rfl) (by kernel_rfl) (by kernel_rfl) (by kernel_rfl)) ?_
  intro W base args ds gs before hval0 hW hcnd _
  have hval : ∀ (j : Nat) t v, Try.f10.params[j]? = some t → args[j]? = some v → Value.okWide Try.prog W .any base t v := hval0
  have hW' := hW
  obtain ⟨p, q, hA0, hV, rfl, hfz, hnd⟩ := hW
  have hA : DataW.TrodAll enc Try.prog W 0 (fun _ => true) true Try.f10.params.toList args.toList ds p := hA0
  rw [Try.params10] at hA hval
  obtain ⟨v0, vs0, d0, ds0, p0, q0, hargs, rfl, rfl, h0, r0⟩ := trodAll_cons hA
  obtain ⟨rfl, rfl, rfl⟩ := trodAll_nil r0
  obtain rfl : args = #[v0] := by cases args; simp_all
  obtain ⟨rfl, rfl⟩ := trodVars_none hV
  have k0 := h0
  have lt0 : ∀ x ∈ p0, x.block < W.heap.size := by obtain ⟨m, hm⟩ := k0; exact DataW.trod_lt m _ _ _ hm
  obtain ⟨a0, rfl, hd0, hp0, w0⟩ := open_int Try.underlying3 (hval 0 3 v0 rfl rfl) h0
  clear hA0 hval0
  refine (law a0 W w0).mono fun e W' ⟨he, bel⟩ => ?_
  subst he
  exact ⟨_, rfl, _, _, _, [], _, [], hW', trodAll_mk1 (shut_bool Try.underlying4 _), (trodAll_cons_mk (Below.trod laidOut (by kernel_rfl) (of_decide_eq_true (by kernel_rfl)) k0 bel lt0) trodAll_mk0), rfl, bel.frame _, fun h => by cases h⟩

theorem over : Rows.fnExactAllMasksRow.holds Try.pinned (OpenSpec.ofChange Rows.fnExactAllMasksSpec) :=
  OpenClaim.holds_of_wide 10 Try.f10 rfl rfl rfl rfl rfl rfl rfl ⟨rfl, rfl, rfl, rfl, rfl⟩ rfl rfl rfl rfl rfl (by kernel_rfl) Try.func10 (by kernel_rfl)
    (of_decide_eq_true (by kernel_rfl)) (by unfold Func.isWrapper; first | (rw [if_pos (by decide +kernel)]; kernel_rfl) | (rw [if_neg (by decide +kernel)]; exact ⟨rfl, rfl⟩))
    (fun os started H enc _ => lifted os started H enc)

theorem proved : Rows.FnExactAllMasksSaid := over
end Go.Proofs.Ytllegpmpibfbcaa.fnExactAllMasks
