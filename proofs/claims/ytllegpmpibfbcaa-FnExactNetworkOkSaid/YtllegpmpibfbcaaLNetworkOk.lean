/- The statement FnExactNetworkOk: the law returns true for every input, and every input reads behind the call as it read before. No condition. -/
import Derived.Test.YtllegpmpibfbcaaRows
import Derived.Test.YtllegpmpibfbcaaNetOk
import Derived.Test.YtllegpmpibfbcaaNetB
import Derived.Test.YtllegpmpibfbcaaOpenNet
namespace Go.Proofs.Ytllegpmpibfbcaa.fnExactNetworkOk
open Go.ChangeShapes Go.WideShapes Go.ChangeAt Go.RowKit Go.Proofs.Ytllegpmpibfbcaa
open Go.ChangeMaps (open_string shut_string)
set_option linter.unusedVariables false

set_option maxHeartbeats 1000000 in
theorem law (n : Int) (v : Value) (rows : List (List Int)) (w : World) (h0 : (Lit.int .i64 n).wf = true) (I0 : IntSS w v rows) :
    Calls Try.prog 14 #[.agg #[.int .i64 n, v]] w fun e w' => e = .returned (.bool true) ∧ Below w.heap.size w w' := by
  clear h0
  have hb : (tf (NetP n rows) != tf (NetP n rows)) = false := by simp
  obtain ⟨ao, cap, hv, _⟩ := id I0
  obtain ⟨W0, HW0⟩ : ∃ W0, Hid (W0 = w.alloc (.cells #[.int .i64 n, v] 42)) := ⟨_, rfl⟩
  have B : Below w.heap.size w W0 := by rw [HW0.out]; exact (Below.refl _ _).alloc (Nat.le_refl _) _
  have I0 := I0.keep (Below.keeps B)
  have s0 := B.size
  by_cases hl : rows.length + sumLen rows ≤ 1048576
  · have hs : 0 ≤ szSS rows 1048576 := by unfold szSS szI; rw [if_pos (by omega)]; omega
    have ca0 : W0.cell? ⟨w.heap.size, 0, none⟩ = some (.int .i64 n) := by rw [HW0.out]; simp [go_sem]
    have ca1 : W0.cell? ⟨w.heap.size, 1, none⟩ = some v := by rw [HW0.out]; simp [go_sem]
    have za : w.heap.size < W0.heap.size := by rw [HW0.out]; simp
    subst hv
    go_enter Try.func14, Try.ntmps14
    go_wp2_with fail
    rw [← HW0.out]
    refine (szNetwork n _ rows 1048576 _ I0 (by omega) (by omega)).mono ?_; rintro e w1 ⟨rfl, b1⟩
    have I0 := I0.keep (Below.keeps b1); have B := B.trans (b1.mono s0); have s1 := b1.size
    have ca0 := Below.keeps b1 _ _ ca0; have ca1 := Below.keeps b1 _ _ ca1
    go_wp2_with fail
    refine (toNetwork n _ rows _ I0 hl).mono ?_; rintro e w2 ⟨v2, rfl, R2, b2⟩
    have I0 := I0.keep (Below.keeps b2); have B := B.trans (b2.mono B.size); have s2 := b2.size
    have ca0 := Below.keeps b2 _ _ ca0; have ca1 := Below.keeps b2 _ _ ca1
    go_wp2_with fail
    refine (specNetworkOk n v2 rows _ R2.intss).mono ?_; rintro e w3 ⟨rfl, b3⟩
    have I0 := I0.keep (Below.keeps b3); have B := B.trans (b3.mono B.size); have s3 := b3.size
    have ca0 := Below.keeps b3 _ _ ca0; have ca1 := Below.keeps b3 _ _ ca1
    clear R2
    go_wp2_with fail
    refine (toNetwork n _ rows _ I0 hl).mono ?_; rintro e w4 ⟨v4, rfl, R4, b4⟩
    have I0 := I0.keep (Below.keeps b4); have B := B.trans (b4.mono B.size); have s4 := b4.size
    have ca0 := Below.keeps b4 _ _ ca0; have ca1 := Below.keeps b4 _ _ ca1
    obtain ⟨a4, l4, c4, hv4⟩ := R4.shape
    subst hv4
    go_wp2_with fail
    refine (implNetworkOk n _ rows _ (R4.intss.keep (Below.keeps ((Below.refl _ _).alloc (Nat.le_refl _) _)))).mono ?_; rintro e w5 ⟨rfl, b5⟩
    have b5' : Below w4.heap.size w4 w5 := ((Below.refl _ _).alloc (Nat.le_refl _) _).trans (b5.mono (by simp))
    have I0 := I0.keep (Below.keeps b5'); have B := B.trans (b5'.mono B.size)
    have ca0 := Below.keeps b5' _ _ ca0; have ca1 := Below.keeps b5' _ _ ca1
    have cx0 : w5.cell? ⟨w4.heap.size, 0, none⟩ = some (.int .i64 n) := Below.keeps b5 _ _ (by simp [go_sem])
    have cx1 : w5.cell? ⟨w4.heap.size, 1, none⟩ = some (.slice a4 l4 c4) := Below.keeps b5 _ _ (by simp [go_sem])
    have J4 := R4.intss.keep (Below.keeps b5')
    clear R4 b1 b2 b3 b4 b5 b5'
    go_wp2
    go_region_held3 (fun w' => (w'.cell? ⟨w4.heap.size, 0, none⟩ = some (.int .i64 n) ∧ w'.cell? ⟨w4.heap.size, 1, none⟩ = some (.slice a4 l4 c4) ∧ w'.cell? ⟨w.heap.size, 0, none⟩ = some (.int .i64 n) ∧ w'.cell? ⟨w.heap.size, 1, none⟩ = some (.slice ao rows.length cap)) ∧ Below w5.heap.size w5 w')
      (first | exact ⟨⟨cx0, cx1, ca0, ca1⟩, (Below.refl _ _).drew⟩ | exact held4 (by assumption) (by assumption))
      (first | (go_at_call 44; refine (toNetwork n _ rows _ (I0.keep (Below.keeps (And.right (by assumption)))) hl).mono ?_; rintro e w6 ⟨v6, rfl, R6, b6⟩) | (go_at_call 46; refine (eqNetwork_yes n _ _ rows _ (J4.keep (Below.keeps (And.right (by assumption)))) R6.intss).mono ?_; rintro e w7 ⟨rfl, b7⟩))
    have b8 : Below w5.heap.size w5 w7 := And.right (by assumption)
    have R := B.trans (b8.mono B.size)
    go_wp2
    go_ret
    exact ⟨rfl, R⟩
  · have hs : szSS rows 1048576 < 0 := by unfold szSS szI; rw [if_neg (by omega)]; omega
    subst hv
    go_enter Try.func14, Try.ntmps14
    go_wp2_with fail
    rw [← HW0.out]
    refine (szNetwork n _ rows 1048576 _ I0 (by omega) (by omega)).mono ?_; rintro e w1 ⟨rfl, b1⟩
    have R := B.trans (b1.mono s0)
    go_wp2
    go_ret
    exact ⟨rfl, R⟩


set_option maxRecDepth 100000 in
theorem lifted (os : Os) (started : os.Started) (H : Type) (enc : TypeId × Value → H) :
    ReturnsInHanded {} Try.checked os 14 .any (Rows.fnExactNetworkOkSpec.pre6 enc Try.prog Try.f14 Rows.fnExactNetworkOkRow.domain false) (Rows.fnExactNetworkOkSpec.post enc Try.prog Try.f14 false true false false) := by
  refine returnsInHanded_of_change (C := Try.checked) own started (by kernel_rfl) Try.func14
    (ChangeSpec.witness6 (enc := enc) (C := Try.checked) false ⟨#[], #[.agg #[.int .i64 0, .slice none 0 0]], []⟩ 8 (by kernel_rfl) (by kernel_rfl) (by kernel_rfl) (by kernel_rfl)) ?_
  intro W base args ds gs before hval0 hW hcnd _
  have hval : ∀ (j : Nat) t v, Try.f14.params[j]? = some t → args[j]? = some v → Value.okWide Try.prog W .any base t v := hval0
  have hW' := hW
  obtain ⟨p, q, hA0, hV, rfl, hfz, hnd⟩ := hW
  have hA : DataW.TrodAll enc Try.prog W 0 (fun _ => true) true Try.f14.params.toList args.toList ds p := hA0
  rw [Try.params14] at hA hval
  obtain ⟨v0, vs0, d0, ds0, p0, q0, hargs, rfl, rfl, h0, r0⟩ := trodAll_cons hA
  obtain ⟨rfl, rfl, rfl⟩ := trodAll_nil r0
  obtain rfl : args = #[v0] := by cases args; simp_all
  obtain ⟨rfl, rfl⟩ := trodVars_none hV
  have k0 := h0
  have lt0 : ∀ x ∈ p0, x.block < W.heap.size := by obtain ⟨m, hm⟩ := k0; exact DataW.trod_lt m _ _ _ hm
  obtain ⟨n0, u0, x0, rfl, w0, z0⟩ := openNet (hval 0 42 v0 rfl rfl) h0
  clear hA0 hval0
  refine (law n0 u0 x0 W w0 z0).mono fun e W' ⟨he, bel⟩ => ?_
  subst he
  exact ⟨_, rfl, _, _, _, [], _, [], hW', trodAll_mk1 (shut_bool Try.underlying4 _), (trodAll_cons_mk (Below.trod laidOut (by kernel_rfl) (of_decide_eq_true (by kernel_rfl)) k0 bel lt0) trodAll_mk0), rfl, bel.frame _, fun h => by cases h⟩

theorem over : Rows.fnExactNetworkOkRow.holds Try.pinned (OpenSpec.ofChange Rows.fnExactNetworkOkSpec) :=
  OpenClaim.holds_of_wide 14 Try.f14 rfl rfl rfl rfl rfl rfl rfl ⟨rfl, rfl, rfl, rfl, rfl⟩ rfl rfl rfl rfl rfl (by kernel_rfl) Try.func14 (by kernel_rfl)
    (of_decide_eq_true (by kernel_rfl)) (by unfold Func.isWrapper; first | (rw [if_pos (by decide +kernel)]; kernel_rfl) | (rw [if_neg (by decide +kernel)]; exact ⟨rfl, rfl⟩))
    (fun os started H enc _ => lifted os started H enc)

theorem proved : Rows.FnExactNetworkOkSaid := over
end Go.Proofs.Ytllegpmpibfbcaa.fnExactNetworkOk
