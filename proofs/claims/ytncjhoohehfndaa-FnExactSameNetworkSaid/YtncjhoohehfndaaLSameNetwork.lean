/- The statement FnExactSameNetwork: the law returns true for every input, and every input reads behind the call as it read before. No condition. -/
import Derived.Test.YtncjhoohehfndaaRows
import Derived.Test.YtncjhoohehfndaaSameN
import Derived.Test.YtncjhoohehfndaaNetB
import Derived.Test.YtncjhoohehfndaaMark
import Derived.Test.YtncjhoohehfndaaOpenNet
namespace Go.Proofs.Ytncjhoohehfndaa.fnExactSameNetwork
open Go.ChangeShapes Go.WideShapes Go.ChangeAt Go.RowKit Go.Proofs.Ytncjhoohehfndaa
open Go.ChangeMaps (open_string shut_string)
set_option linter.unusedVariables false

set_option maxHeartbeats 4000000 in
set_option maxRecDepth 100000 in
theorem law (n0 : Int) (v0 : Value) (x0 : List (List Int)) (n1 : Int) (v1 : Value) (x1 : List (List Int)) (w : World) (h0 : (Lit.int .i64 n0).wf = true) (I0 : IntSS w v0 x0) (h1 : (Lit.int .i64 n1).wf = true) (I1 : IntSS w v1 x1) :
    Calls Try.prog 4 #[.agg #[.int .i64 n0, v0], .agg #[.int .i64 n1, v1]] w fun e w' => e = .returned (.bool true) ∧ Below w.heap.size w w' := by
  obtain ⟨ao0, cap0, hv0, hcap0, hmax0, hnil0, hcell0⟩ := id I0
  clear hnil0 hcell0
  unfold maxLen at hmax0
  have hw0 := Lib.hid h0; clear h0
  obtain ⟨ao1, cap1, hv1, hcap1, hmax1, hnil1, hcell1⟩ := id I1
  clear hnil1 hcell1
  unfold maxLen at hmax1
  have hw1 := Lib.hid h1; clear h1
  have hb0 : (tf (SnP n0 x0 n1 x1) != tf (SnP n0 x0 n1 x1)) = false := by simp
  obtain ⟨W0, HW0⟩ : ∃ W0, Hid (W0 = ((w.alloc (.cells #[.int .i64 n0, v0] 24)).alloc (.cells #[.int .i64 n1, v1] 24))) := ⟨_, rfl⟩
  have BB : Below w.heap.size w W0 := by rw [HW0.out]; exact (((Below.refl _ _).alloc (by simp) _).alloc (by simp) _)
  have ca0 : W0.cell? ⟨w.heap.size, 0, none⟩ = some (.int .i64 n0) := by rw [HW0.out]; simp [go_sem]
  have cb0 : W0.cell? ⟨w.heap.size, 1, none⟩ = some v0 := by rw [HW0.out]; simp [go_sem]
  have ca1 : W0.cell? ⟨w.heap.size + 1, 0, none⟩ = some (.int .i64 n1) := by rw [HW0.out]; simp [go_sem]
  have cb1 : W0.cell? ⟨w.heap.size + 1, 1, none⟩ = some v1 := by rw [HW0.out]; simp [go_sem]
  have za : w.heap.size + 2 ≤ W0.heap.size := by rw [HW0.out]; simp
  have I0 := I0.keep (Below.keeps BB)
  have I1 := I1.keep (Below.keeps BB)
  subst hv0
  subst hv1
  by_cases hg0 : ((x0.length + sumLen x0 : Nat) : Int) ≤ 1048576
  · skip
    have hs0 : 0 ≤ szSS x0 1048576 ∧ szSS x0 1048576 ≤ 1048576 := by unfold szSS szI; rw [if_pos hg0]; omega
    have ht0 := hs0.1; have hu0 := hs0.2; clear hs0
    have hl0 : x0.length + sumLen x0 ≤ 1048576 := by omega
    have hq0 : decide ((szSS x0 1048576) < 0) = false := decide_eq_false (by omega)
    by_cases hg1 : ((x1.length + sumLen x1 : Nat) : Int) ≤ (szSS x0 1048576)
    · skip
      have hs1 : 0 ≤ szSS x1 (szSS x0 1048576) ∧ szSS x1 (szSS x0 1048576) ≤ 1048576 := by have hgg := hg1; generalize szSS x0 1048576 = q at *; unfold szSS szI; rw [if_pos hgg]; omega
      have ht1 := hs1.1; have hu1 := hs1.2; clear hs1
      have hl1 : x1.length + sumLen x1 ≤ 1048576 := by omega
      have hq1 : decide ((szSS x1 (szSS x0 1048576)) < 0) = false := decide_eq_false (by omega)
      go_enter Try.func4, Try.ntmps4
      have B : Below W0.heap.size W0 W0 := Below.refl _ _
      go_wp2_with fail
      rw [← HW0.out]
      refine (szNetwork n0 _ x0 1048576 _ (I0.keep (Below.keeps B)) (by omega) (by omega)).mono ?_; rintro e wz0 ⟨rfl, bz0⟩
      have ca0 := Below.keeps bz0 _ _ ca0
      have cb0 := Below.keeps bz0 _ _ cb0
      have ca1 := Below.keeps bz0 _ _ ca1
      have cb1 := Below.keeps bz0 _ _ cb1
      have swz0 := bz0.size; have B := B.trans (bz0.mono (by omega))
      go_wp2_with fail
      refine (szNetwork n1 _ x1 (szSS x0 1048576) _ (I1.keep (Below.keeps B)) (by omega) (by omega)).mono ?_; rintro e wz1 ⟨rfl, bz1⟩
      have ca0 := Below.keeps bz1 _ _ ca0
      have cb0 := Below.keeps bz1 _ _ cb0
      have ca1 := Below.keeps bz1 _ _ ca1
      have cb1 := Below.keeps bz1 _ _ cb1
      have swz1 := bz1.size; have B := B.trans (bz1.mono (by omega))
      go_wp2
      go_region_held3 (fun w' => (w'.cell? ⟨w.heap.size, 0, none⟩ = some (.int .i64 n0) ∧ w'.cell? ⟨w.heap.size, 1, none⟩ = some (.slice ao0 x0.length cap0) ∧ w'.cell? ⟨w.heap.size + 1, 0, none⟩ = some (.int .i64 n1) ∧ w'.cell? ⟨w.heap.size + 1, 1, none⟩ = some (.slice ao1 x1.length cap1)) ∧ Below wz1.heap.size wz1 w')
        (first | exact ⟨⟨ca0, cb0, ca1, cb1⟩, (Below.refl _ _).drew⟩ | exact held4 (by assumption) (by assumption))
        (first | (go_at_call 9; refine Calls.mono (by with_reducible exact toNetwork n0 _ x0 _ (I0.keep ((Below.keeps B).trans (Below.keeps (And.right (by assumption))))) hl0) ?_; rintro e w1a ⟨u1a, rfl, R1a, b1a⟩) | (go_at_call 9; refine Calls.mono (by with_reducible exact toNetwork n1 _ x1 _ (I1.keep ((Below.keeps B).trans (Below.keeps (And.right (by assumption))))) hl1) ?_; rintro e w2a ⟨u2a, rfl, R2a, b2a⟩) | (go_at_call 17; refine (specSameNetwork n0 _ x0 n1 _ x1 _ hw0.out (by first | exact R1a.intss | exact R1a.intss.keep (Below.keeps b2a)) hl0 hw1.out (by first | exact R2a.intss | exact R2a.intss.keep (Below.keeps b1a)) hl1).mono ?_; rintro e w3 ⟨rfl, b3c⟩))
      have b3 : Below wz1.heap.size wz1 w3 := And.right (by assumption)
      replace ca0 := Below.keeps b3 _ _ ca0
      replace cb0 := Below.keeps b3 _ _ cb0
      replace ca1 := Below.keeps b3 _ _ ca1
      replace cb1 := Below.keeps b3 _ _ cb1
      have sw3 := b3.size
      have zq3 : w.heap.size + 1 < w3.heap.size := by omega
      replace B := B.trans (b3.mono (by omega))
      go_wp2_with fail
      refine (toNetwork n0 _ x0 _ (I0.keep (Below.keeps B)) hl0).mono ?_; rintro e w4 ⟨u4, rfl, R4, b4⟩
      obtain ⟨p4, l4, c4, hu4⟩ := R4.shape; subst hu4
      replace ca0 := Below.keeps b4 _ _ ca0
      replace cb0 := Below.keeps b4 _ _ cb0
      replace ca1 := Below.keeps b4 _ _ ca1
      replace cb1 := Below.keeps b4 _ _ cb1
      have sw4 := b4.size
      have zq4 : w.heap.size + 1 < w4.heap.size := by omega
      replace B := B.trans (b4.mono (by omega))
      go_wp2_with fail
      obtain ⟨w5, Hw5⟩ : ∃ W, Hid (W = w4.alloc (.cells #[.int .i64 n0, (.slice p4 l4 c4)] 26)) := ⟨_, rfl⟩
      rw [← Hw5.out]
      have b5 : Below w4.heap.size w4 w5 := by rw [Hw5.out]; exact (Below.refl _ _).alloc (Nat.le_refl _) _
      replace R4 := R4.below b5 (by omega)
      replace ca0 := Below.keeps b5 _ _ ca0
      replace cb0 := Below.keeps b5 _ _ cb0
      replace ca1 := Below.keeps b5 _ _ ca1
      replace cb1 := Below.keeps b5 _ _ cb1
      have sw5 := b5.size
      have zq5 : w.heap.size + 1 < w5.heap.size := by omega
      replace B := B.trans (b5.mono (by omega))
      have cx5 : w5.cell? ⟨w4.heap.size, 0, none⟩ = some (.int .i64 n0) := by rw [Hw5.out]; simp [go_sem]
      have cy5 : w5.cell? ⟨w4.heap.size, 1, none⟩ = some (.slice p4 l4 c4) := by rw [Hw5.out]; simp [go_sem]
      have z5 : w4.heap.size < w5.heap.size := by rw [Hw5.out]; simp
      clear Hw5
      refine (toNetwork n1 _ x1 _ (I1.keep (Below.keeps B)) hl1).mono ?_; rintro e w6 ⟨u6, rfl, R6, b6⟩
      obtain ⟨p6, l6, c6, hu6⟩ := R6.shape; subst hu6
      replace R4 := R4.below b6 (by omega)
      replace ca0 := Below.keeps b6 _ _ ca0
      replace cb0 := Below.keeps b6 _ _ cb0
      replace ca1 := Below.keeps b6 _ _ ca1
      replace cb1 := Below.keeps b6 _ _ cb1
      replace cx5 := Below.keeps b6 _ _ cx5
      replace cy5 := Below.keeps b6 _ _ cy5
      have sw6 := b6.size
      have zq6 : w.heap.size + 1 < w6.heap.size := by omega
      have zrw46 : w4.heap.size < w6.heap.size := by omega
      replace B := B.trans (b6.mono (by omega))
      go_wp2_with fail
      obtain ⟨w7, Hw7⟩ : ∃ W, Hid (W = w6.alloc (.cells #[.int .i64 n1, (.slice p6 l6 c6)] 26)) := ⟨_, rfl⟩
      rw [← Hw7.out]
      have b7 : Below w6.heap.size w6 w7 := by rw [Hw7.out]; exact (Below.refl _ _).alloc (Nat.le_refl _) _
      replace R4 := R4.below b7 (by omega)
      replace R6 := R6.below b7 (by omega)
      replace ca0 := Below.keeps b7 _ _ ca0
      replace cb0 := Below.keeps b7 _ _ cb0
      replace ca1 := Below.keeps b7 _ _ ca1
      replace cb1 := Below.keeps b7 _ _ cb1
      replace cx5 := Below.keeps b7 _ _ cx5
      replace cy5 := Below.keeps b7 _ _ cy5
      have sw7 := b7.size
      have zq7 : w.heap.size + 1 < w7.heap.size := by omega
      have zrw47 : w4.heap.size < w7.heap.size := by omega
      replace B := B.trans (b7.mono (by omega))
      have cx7 : w7.cell? ⟨w6.heap.size, 0, none⟩ = some (.int .i64 n1) := by rw [Hw7.out]; simp [go_sem]
      have cy7 : w7.cell? ⟨w6.heap.size, 1, none⟩ = some (.slice p6 l6 c6) := by rw [Hw7.out]; simp [go_sem]
      have z7 : w6.heap.size < w7.heap.size := by rw [Hw7.out]; simp
      clear Hw7
      refine (implSameNetwork n0 _ x0 n1 _ x1 _ hw0.out R4.intss hl0 hw1.out R6.intss hl1).mono ?_; rintro e w8 ⟨rfl, b8⟩
      replace R4 := R4.below b8 (by omega)
      replace R6 := R6.below b8 (by omega)
      replace ca0 := Below.keeps b8 _ _ ca0
      replace cb0 := Below.keeps b8 _ _ cb0
      replace ca1 := Below.keeps b8 _ _ ca1
      replace cb1 := Below.keeps b8 _ _ cb1
      replace cx5 := Below.keeps b8 _ _ cx5
      replace cy5 := Below.keeps b8 _ _ cy5
      replace cx7 := Below.keeps b8 _ _ cx7
      replace cy7 := Below.keeps b8 _ _ cy7
      have sw8 := b8.size
      have zq8 : w.heap.size + 1 < w8.heap.size := by omega
      have zrw48 : w4.heap.size < w8.heap.size := by omega
      have zrw68 : w6.heap.size < w8.heap.size := by omega
      replace B := B.trans (b8.mono (by omega))
      have JX := R4.intss
      go_wp2
      go_region_held3 (fun w' => (w'.cell? ⟨w4.heap.size, 0, none⟩ = some (.int .i64 n0) ∧ w'.cell? ⟨w4.heap.size, 1, none⟩ = some (.slice p4 l4 c4) ∧ w'.cell? ⟨w.heap.size, 0, none⟩ = some (.int .i64 n0) ∧ w'.cell? ⟨w.heap.size, 1, none⟩ = some (.slice ao0 x0.length cap0)) ∧ Below w8.heap.size w8 w')
        (first | exact ⟨⟨cx5, cy5, ca0, cb0⟩, (Below.refl _ _).drew⟩ | exact held4 (by assumption) (by assumption))
        (first | (go_at_call 9; refine (toNetwork n0 _ x0 _ (I0.keep ((Below.keeps B).trans (Below.keeps (And.right (by assumption))))) hl0).mono ?_; rintro e w9a ⟨u9a, rfl, R9a, b9a⟩) | (go_at_call 11; refine (eqNetwork_yes n0 _ _ x0 _ (JX.keep (Below.keeps (And.right (by assumption)))) R9a.intss).mono ?_; rintro e w9 ⟨rfl, b9b⟩))
      have b9 : Below w8.heap.size w8 w9 := And.right (by assumption)
      clear JX
      replace R4 := R4.below b9 (by omega)
      replace R6 := R6.below b9 (by omega)
      replace ca0 := Below.keeps b9 _ _ ca0
      replace cb0 := Below.keeps b9 _ _ cb0
      replace ca1 := Below.keeps b9 _ _ ca1
      replace cb1 := Below.keeps b9 _ _ cb1
      replace cx5 := Below.keeps b9 _ _ cx5
      replace cy5 := Below.keeps b9 _ _ cy5
      replace cx7 := Below.keeps b9 _ _ cx7
      replace cy7 := Below.keeps b9 _ _ cy7
      have sw9 := b9.size
      have zq9 : w.heap.size + 1 < w9.heap.size := by omega
      have zrw49 : w4.heap.size < w9.heap.size := by omega
      have zrw69 : w6.heap.size < w9.heap.size := by omega
      replace B := B.trans (b9.mono (by omega))
      have JX := R6.intss
      go_wp2
      go_region_held3 (fun w' => (w'.cell? ⟨w6.heap.size, 0, none⟩ = some (.int .i64 n1) ∧ w'.cell? ⟨w6.heap.size, 1, none⟩ = some (.slice p6 l6 c6) ∧ w'.cell? ⟨w.heap.size + 1, 0, none⟩ = some (.int .i64 n1) ∧ w'.cell? ⟨w.heap.size + 1, 1, none⟩ = some (.slice ao1 x1.length cap1)) ∧ Below w9.heap.size w9 w')
        (first | exact ⟨⟨cx7, cy7, ca1, cb1⟩, (Below.refl _ _).drew⟩ | exact held4 (by assumption) (by assumption))
        (first | (go_at_call 9; refine (toNetwork n1 _ x1 _ (I1.keep ((Below.keeps B).trans (Below.keeps (And.right (by assumption))))) hl1).mono ?_; rintro e w10a ⟨u10a, rfl, R10a, b10a⟩) | (go_at_call 11; refine (eqNetwork_yes n1 _ _ x1 _ (JX.keep (Below.keeps (And.right (by assumption)))) R10a.intss).mono ?_; rintro e w10 ⟨rfl, b10b⟩))
      have b10 : Below w9.heap.size w9 w10 := And.right (by assumption)
      clear JX
      replace R4 := R4.below b10 (by omega)
      replace R6 := R6.below b10 (by omega)
      replace ca0 := Below.keeps b10 _ _ ca0
      replace cb0 := Below.keeps b10 _ _ cb0
      replace ca1 := Below.keeps b10 _ _ ca1
      replace cb1 := Below.keeps b10 _ _ cb1
      replace cx5 := Below.keeps b10 _ _ cx5
      replace cy5 := Below.keeps b10 _ _ cy5
      replace cx7 := Below.keeps b10 _ _ cx7
      replace cy7 := Below.keeps b10 _ _ cy7
      have sw10 := b10.size
      have zq10 : w.heap.size + 1 < w10.heap.size := by omega
      have zrw410 : w4.heap.size < w10.heap.size := by omega
      have zrw610 : w6.heap.size < w10.heap.size := by omega
      replace B := B.trans (b10.mono (by omega))
      have BE := BB.trans (B.mono BB.size)
      go_wp2
      go_ret
      exact ⟨rfl, BE⟩
    · skip
      have hs1 : szSS x1 (szSS x0 1048576) < 0 := by have hgg := hg1; generalize szSS x0 1048576 = q at *; unfold szSS szI; rw [if_neg hgg]; omega
      go_enter Try.func4, Try.ntmps4
      have B : Below W0.heap.size W0 W0 := Below.refl _ _
      go_wp2_with fail
      rw [← HW0.out]
      refine (szNetwork n0 _ x0 1048576 _ (I0.keep (Below.keeps B)) (by omega) (by omega)).mono ?_; rintro e w1 ⟨rfl, b1⟩
      have ca0 := Below.keeps b1 _ _ ca0
      have cb0 := Below.keeps b1 _ _ cb0
      have ca1 := Below.keeps b1 _ _ ca1
      have cb1 := Below.keeps b1 _ _ cb1
      have B := B.trans (b1.mono (by omega)); have sw1 := b1.size
      go_wp2_with fail
      refine (szNetwork n1 _ x1 (szSS x0 1048576) _ (I1.keep (Below.keeps B)) (by omega) (by omega)).mono ?_; rintro e w2 ⟨rfl, b2⟩
      have ca0 := Below.keeps b2 _ _ ca0
      have cb0 := Below.keeps b2 _ _ cb0
      have ca1 := Below.keeps b2 _ _ ca1
      have cb1 := Below.keeps b2 _ _ cb1
      have B := B.trans (b2.mono (by omega)); have sw2 := b2.size
      have BE := BB.trans (B.mono BB.size)
      go_wp2
      go_ret
      exact ⟨rfl, BE⟩
  · skip
    have hs0 : szSS x0 1048576 < 0 := by unfold szSS szI; rw [if_neg hg0]; omega
    go_enter Try.func4, Try.ntmps4
    have B : Below W0.heap.size W0 W0 := Below.refl _ _
    go_wp2_with fail
    rw [← HW0.out]
    refine (szNetwork n0 _ x0 1048576 _ (I0.keep (Below.keeps B)) (by omega) (by omega)).mono ?_; rintro e w1 ⟨rfl, b1⟩
    have ca0 := Below.keeps b1 _ _ ca0
    have cb0 := Below.keeps b1 _ _ cb0
    have ca1 := Below.keeps b1 _ _ ca1
    have cb1 := Below.keeps b1 _ _ cb1
    have B := B.trans (b1.mono (by omega)); have sw1 := b1.size
    have BE := BB.trans (B.mono BB.size)
    go_wp2
    go_ret
    exact ⟨rfl, BE⟩


set_option maxRecDepth 100000 in
theorem lifted (os : Os) (started : os.Started) (H : Type) (enc : TypeId × Value → H) :
    ReturnsInHanded {} Try.checked os 4 .any (Rows.fnExactSameNetworkSpec.pre6 enc Try.prog Try.f4 Rows.fnExactSameNetworkRow.domain false) (Rows.fnExactSameNetworkSpec.post enc Try.prog Try.f4 false true false false) := by
  refine returnsInHanded_of_change (C := Try.checked) own started (by kernel_rfl) Try.func4
    (ChangeSpec.witness6 (enc := enc) (C := Try.checked) false ⟨#[], #[.agg #[.int .i64 0, .slice none 0 0], .agg #[.int .i64 0, .slice none 0 0]], []⟩ 8 (by kernel_rfl) (by kernel_rfl) (by kernel_rfl) (by kernel_rfl)) ?_
  intro W base args ds gs before hval0 hW hcnd _
  have hval : ∀ (j : Nat) t v, Try.f4.params[j]? = some t → args[j]? = some v → Value.okWide Try.prog W .any base t v := hval0
  have hW' := hW
  obtain ⟨p, q, hA0, hV, rfl, hfz, hnd⟩ := hW
  have hA : DataW.TrodAll enc Try.prog W 0 (fun _ => true) true Try.f4.params.toList args.toList ds p := hA0
  rw [Try.params4] at hA hval
  obtain ⟨v0, vs0, d0, ds0, p0, q0, hargs, rfl, rfl, h0, r0⟩ := trodAll_cons hA
  obtain ⟨v1, vs1, d1, ds1, p1, q1, rfl, rfl, rfl, h1, r1⟩ := trodAll_cons r0
  obtain ⟨rfl, rfl, rfl⟩ := trodAll_nil r1
  obtain rfl : args = #[v0, v1] := by cases args; simp_all
  obtain ⟨rfl, rfl⟩ := trodVars_none hV
  have k0 := h0
  have lt0 : ∀ x ∈ p0, x.block < W.heap.size := by obtain ⟨m, hm⟩ := k0; exact DataW.trod_lt m _ _ _ hm
  obtain ⟨n0, u0, x0, rfl, w0, z0⟩ := openNet (hval 0 24 v0 rfl rfl) h0
  have k1 := h1
  have lt1 : ∀ x ∈ p1, x.block < W.heap.size := by obtain ⟨m, hm⟩ := k1; exact DataW.trod_lt m _ _ _ hm
  obtain ⟨n1, u1, x1, rfl, w1, z1⟩ := openNet (hval 1 24 v1 rfl rfl) h1
  clear hA0 hval0
  refine (law n0 u0 x0 n1 u1 x1 W w0 z0 w1 z1).mono fun e W' ⟨he, bel⟩ => ?_
  subst he
  exact ⟨_, rfl, _, _, _, [], _, [], hW', trodAll_mk1 (shut_bool Try.underlying4 _), (trodAll_cons_mk (Below.trod laidOut (by kernel_rfl) (of_decide_eq_true (by kernel_rfl)) k0 bel lt0) (trodAll_cons_mk (Below.trod laidOut (by kernel_rfl) (of_decide_eq_true (by kernel_rfl)) k1 bel lt1) trodAll_mk0)), rfl, bel.frame _, fun h => by cases h⟩

theorem band {a b : Bool} (h1 : a = true) (h2 : b = true) : (a && b) = true := by subst h1; subst h2; rfl
set_option maxHeartbeats 4000000 in
/-- The closed facts of the program, each checked by itself. -/
theorem joined : joinedFacts Try.prog 4 Try.f4 Rows.fnExactSameNetworkSpec Rows.fnExactSameNetworkRow = true := by
  unfold joinedFacts
  repeat' (with_reducible apply band)
  all_goals (as_aux_lemma => kernel_rfl)

theorem over : Rows.fnExactSameNetworkRow.holds Try.pinned (OpenSpec.ofChange Rows.fnExactSameNetworkSpec) :=
  OpenClaim.holds_of_wide 4 Try.f4 rfl rfl rfl rfl rfl rfl rfl ⟨rfl, rfl, rfl, rfl, rfl⟩ rfl rfl rfl rfl rfl (by as_aux_lemma => kernel_rfl) Try.func4 joined
    (of_decide_eq_true (by as_aux_lemma => kernel_rfl)) (by unfold Func.isWrapper; first | (rw [if_pos (by decide +kernel)]; kernel_rfl) | (rw [if_neg (by decide +kernel)]; exact ⟨rfl, rfl⟩))
    (fun os started H enc _ => lifted os started H enc)

theorem proved : Rows.FnExactSameNetworkSaid := over
end Go.Proofs.Ytncjhoohehfndaa.fnExactSameNetwork
