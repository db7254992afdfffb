/- The statement FnExactFormatNetwork: the law returns true for every input, and every input reads behind the call as it read before. No condition. -/
import Derived.Test.YtdbiidbnhmnebaaDoorRows
import Derived.Test.YtdbiidbnhmnebaaDoorTie
import Derived.Test.YtdbiidbnhmnebaaDoorCards
import Derived.SevenTiedAt
import Derived.Test.YtdbiidbnhmnebaaDoorDoor
import Derived.Test.YtdbiidbnhmnebaaDoorFmtN2
import Derived.Test.YtdbiidbnhmnebaaDoorNetB
import Derived.Test.YtdbiidbnhmnebaaDoorMark
import Derived.Test.YtdbiidbnhmnebaaDoorOpenNet
namespace Go.Proofs.YtdbiidbnhmnebaaDoor.fnExactFormatNetwork
open Go.ChangeShapes Go.WideShapes Go.ChangeAt Go.RowKit Go.Proofs.YtdbiidbnhmnebaaDoor
open Go.ChangeMaps (open_string shut_string)
set_option linter.unusedVariables false

set_option maxHeartbeats 4000000 in
set_option maxRecDepth 100000 in
theorem law (n0 : Int) (v0 : Value) (x0 : List (List Int)) (w : World) (h0 : (Lit.int .i64 n0).wf = true) (I0 : IntSS w v0 x0) :
    Calls Tryd.prog 5 #[.agg #[.int .i64 n0, v0]] w fun e w' => e = .returned (.bool true) ∧ Below w.heap.size w w' := by
  obtain ⟨ao0, cap0, hv0, hcap0, hmax0, hnil0, hcell0⟩ := id I0
  clear hnil0 hcell0
  unfold maxLen at hmax0
  have hw0 := Lib.hid h0; clear h0
  obtain ⟨W0, HW0⟩ : ∃ W0, Hid (W0 = (w.alloc (.cells #[.int .i64 n0, v0] 31))) := ⟨_, rfl⟩
  have BB : Below w.heap.size w W0 := by rw [HW0.out]; exact ((Below.refl _ _).alloc (by simp) _)
  have ca0 : W0.cell? ⟨w.heap.size, 0, none⟩ = some (.int .i64 n0) := by rw [HW0.out]; simp [go_sem]
  have cb0 : W0.cell? ⟨w.heap.size, 1, none⟩ = some v0 := by rw [HW0.out]; simp [go_sem]
  have za : w.heap.size + 1 ≤ W0.heap.size := by rw [HW0.out]; simp
  have I0 := I0.keep (Below.keeps BB)
  subst hv0
  by_cases hg0 : ((x0.length + sumLen x0 : Nat) : Int) ≤ 1048576
  · skip
    have hs0 : 0 ≤ szSS x0 1048576 ∧ szSS x0 1048576 ≤ 1048576 := by unfold szSS szI; rw [if_pos hg0]; omega
    have ht0 := hs0.1; have hu0 := hs0.2; clear hs0
    have hl0 : x0.length + sumLen x0 ≤ 1048576 := by omega
    have hq0 : decide ((szSS x0 1048576) < 0) = false := decide_eq_false (by omega)
    go_enter Tryd.func5, Tryd.ntmps5
    have B : Below W0.heap.size W0 W0 := Below.refl _ _
    go_wp2_with fail
    rw [← HW0.out]
    refine (szNetwork n0 _ x0 1048576 _ (I0.keep (Below.keeps B)) (by omega) (by omega)).mono ?_; rintro e wz0 ⟨rfl, bz0⟩
    have ca0 := Below.keeps bz0 _ _ ca0
    have cb0 := Below.keeps bz0 _ _ cb0
    have swz0 := bz0.size; have B := B.trans (bz0.mono (by omega))
    go_wp2_with fail
    refine (toNetwork n0 _ x0 _ (I0.keep (Below.keeps B)) hl0).mono ?_; rintro e w1 ⟨u1, rfl, R1, b1⟩
    obtain ⟨p1, l1, c1, hu1⟩ := R1.shape; subst hu1
    replace ca0 := Below.keeps b1 _ _ ca0
    replace cb0 := Below.keeps b1 _ _ cb0
    have sw1 := b1.size
    replace B := B.trans (b1.mono (by omega))
    go_wp2_with fail
    refine (specFormatNetwork n0 _ x0 _ hw0.out R1.intss hl0).mono ?_; rintro e w2 ⟨rfl, b2⟩
    replace R1 := R1.below b2 (by omega)
    replace ca0 := Below.keeps b2 _ _ ca0
    replace cb0 := Below.keeps b2 _ _ cb0
    have sw2 := b2.size
    replace B := B.trans (b2.mono (by omega))
    clear R1
    go_wp2_with fail
    refine (toNetwork n0 _ x0 _ (I0.keep (Below.keeps B)) hl0).mono ?_; rintro e w3 ⟨u3, rfl, R3, b3⟩
    obtain ⟨p3, l3, c3, hu3⟩ := R3.shape; subst hu3
    replace ca0 := Below.keeps b3 _ _ ca0
    replace cb0 := Below.keeps b3 _ _ cb0
    have sw3 := b3.size
    replace B := B.trans (b3.mono (by omega))
    go_wp2_with fail
    obtain ⟨w4, Hw4⟩ : ∃ W, Hid (W = w3.alloc (.cells #[.int .i64 n0, (.slice p3 l3 c3)] 34)) := ⟨_, rfl⟩
    rw [← Hw4.out]
    have b4 : Below w3.heap.size w3 w4 := by rw [Hw4.out]; exact (Below.refl _ _).alloc (Nat.le_refl _) _
    replace R3 := R3.below b4 (by omega)
    replace ca0 := Below.keeps b4 _ _ ca0
    replace cb0 := Below.keeps b4 _ _ cb0
    have sw4 := b4.size
    replace B := B.trans (b4.mono (by omega))
    have cx4 : w4.cell? ⟨w3.heap.size, 0, none⟩ = some (.int .i64 n0) := by rw [Hw4.out]; simp [go_sem]
    have cy4 : w4.cell? ⟨w3.heap.size, 1, none⟩ = some (.slice p3 l3 c3) := by rw [Hw4.out]; simp [go_sem]
    have z4 : w3.heap.size < w4.heap.size := by rw [Hw4.out]; simp
    clear Hw4
    refine (implFormatNetwork n0 _ x0 _ hw0.out R3.intss hl0).mono ?_; rintro e w5 ⟨rfl, b5⟩
    replace R3 := R3.below b5 (by omega)
    replace ca0 := Below.keeps b5 _ _ ca0
    replace cb0 := Below.keeps b5 _ _ cb0
    replace cx4 := Below.keeps b5 _ _ cx4
    replace cy4 := Below.keeps b5 _ _ cy4
    have sw5 := b5.size
    replace B := B.trans (b5.mono (by omega))
    have JX := R3.intss
    go_wp2
    go_region_held3 (fun w' => (w'.cell? ⟨w3.heap.size, 0, none⟩ = some (.int .i64 n0) ∧ w'.cell? ⟨w3.heap.size, 1, none⟩ = some (.slice p3 l3 c3) ∧ w'.cell? ⟨w.heap.size, 0, none⟩ = some (.int .i64 n0) ∧ w'.cell? ⟨w.heap.size, 1, none⟩ = some (.slice ao0 x0.length cap0)) ∧ Below w5.heap.size w5 w')
      (first | exact ⟨⟨cx4, cy4, ca0, cb0⟩, (Below.refl _ _).drew⟩ | exact held4 (by assumption) (by assumption))
      (first | (go_at_call 15; refine (toNetwork n0 _ x0 _ (I0.keep ((Below.keeps B).trans (Below.keeps (And.right (by assumption))))) hl0).mono ?_; rintro e w6a ⟨u6a, rfl, R6a, b6a⟩) | (go_at_call 17; refine (eqNetwork_yes n0 _ _ x0 _ (JX.keep (Below.keeps (And.right (by assumption)))) R6a.intss).mono ?_; rintro e w6 ⟨rfl, b6b⟩))
    have b6 : Below w5.heap.size w5 w6 := And.right (by assumption)
    clear JX
    replace R3 := R3.below b6 (by omega)
    replace ca0 := Below.keeps b6 _ _ ca0
    replace cb0 := Below.keeps b6 _ _ cb0
    replace cx4 := Below.keeps b6 _ _ cx4
    replace cy4 := Below.keeps b6 _ _ cy4
    have sw6 := b6.size
    replace B := B.trans (b6.mono (by omega))
    have BE := BB.trans (B.mono BB.size)
    go_wp2
    go_ret
    exact ⟨rfl, BE⟩
  · skip
    have hs0 : szSS x0 1048576 < 0 := by unfold szSS szI; rw [if_neg hg0]; omega
    go_enter Tryd.func5, Tryd.ntmps5
    have B : Below W0.heap.size W0 W0 := Below.refl _ _
    go_wp2_with fail
    rw [← HW0.out]
    refine (szNetwork n0 _ x0 1048576 _ (I0.keep (Below.keeps B)) (by omega) (by omega)).mono ?_; rintro e w1 ⟨rfl, b1⟩
    have ca0 := Below.keeps b1 _ _ ca0
    have cb0 := Below.keeps b1 _ _ cb0
    have B := B.trans (b1.mono (by omega)); have sw1 := b1.size
    have BE := BB.trans (B.mono BB.size)
    go_wp2
    go_ret
    exact ⟨rfl, BE⟩


set_option maxRecDepth 100000 in
theorem door_met (os : Os) (args : Array Value) : laidMetH Tryd.prog Rows.fnExactFormatNetworkRow.laid ((World.laidAll Tryd.prog os Rows.fnExactFormatNetworkRow.laid).forCall (fun _ _ => 0) ⟨#[], args, []⟩).memory := by
  rw [MakeChecks.laidMetH_plain _ _ _ (by kernel_rfl)]
  exact laidMet_laidAll args (by kernel_rfl) (by kernel_rfl)
set_option maxRecDepth 100000 in
theorem lifted (os : Os) (started : os.Started) (H : Type) (enc : TypeId × Value → H) :
    ReturnsInHanded {} Tryd.checked os 5 .any (fun w args => (Rows.fnExactFormatNetworkSpec.pre enc Tryd.prog Tryd.f5 [] false w args ∧ laidMetH Tryd.prog Rows.fnExactFormatNetworkRow.laid w) ∧ sizedMet enc Tryd.prog Tryd.f5 (OpenSpec.ofChange Rows.fnExactFormatNetworkSpec) false w args) (Rows.fnExactFormatNetworkSpec.post enc Tryd.prog Tryd.f5 false true false false) := by
  refine returnsLaid (C := Tryd.checked) (X := fun w _ => laidMetH Tryd.prog Rows.fnExactFormatNetworkRow.laid w) (fun _ _ _ hh h => h.of_heap hh) own started (by kernel_rfl) Tryd.func5
    (ChangeSpec.witness_shaped (enc := enc) (C := Tryd.checked) (os := os) (X := fun w _ => laidMetH Tryd.prog Rows.fnExactFormatNetworkRow.laid w) false (World.laidAll Tryd.prog os Rows.fnExactFormatNetworkRow.laid) #[.agg #[.int .i64 0, .slice none 0 0]] 8 (World.laidAll_os _ _ _) (World.shaped_of_ZipB (by kernel_rfl) (by kernel_rfl)) (by kernel_rfl) (by kernel_rfl) (by kernel_rfl) (door_met os _)) ?_
  intro W base args ds gs before hval0 hW hsh hL0
  have hL := hL0
  rw [MakeChecks.laidMetH_plain _ _ _ (by kernel_rfl)] at hL
  have hval : ∀ (j : Nat) t v, Tryd.f5.params[j]? = some t → args[j]? = some v → Value.okWide Tryd.prog W .any base t v := hval0
  have hW' := hW
  obtain ⟨p, q, hA0, hV, rfl, hfz, hnd⟩ := hW
  have hA : DataW.TrodAll enc Tryd.prog W 0 (fun _ => true) true Tryd.f5.params.toList args.toList ds p := hA0
  rw [Tryd.params5] at hA hval
  obtain ⟨v0, vs0, d0, ds0, p0, q0, hargs, rfl, rfl, h0, r0⟩ := trodAll_cons hA
  obtain ⟨rfl, rfl, rfl⟩ := trodAll_nil r0
  obtain rfl : args = #[v0] := by cases args; simp_all
  obtain ⟨rfl, rfl⟩ := trodVars_none hV
  have k0 := h0
  have lt0 : ∀ x ∈ p0, x.block < W.heap.size := by obtain ⟨m, hm⟩ := k0; exact DataW.trod_lt m _ _ _ hm
  obtain ⟨n0, u0, x0, rfl, w0, z0⟩ := openNet (hval 0 31 v0 rfl rfl) h0
  clear hA0 hval0
  refine (law n0 u0 x0 W w0 z0).mono fun e W' ⟨he, bel⟩ => ?_
  subst he
  exact ⟨_, rfl, _, _, _, [], _, [], hW', trodAll_mk1 (shut_bool Tryd.underlying4 _), (trodAll_cons_mk (Below.trod laidOut (by kernel_rfl) (of_decide_eq_true (by kernel_rfl)) k0 bel lt0) trodAll_mk0), rfl, bel.frame _, fun h => by cases h⟩

theorem band {a b : Bool} (h1 : a = true) (h2 : b = true) : (a && b) = true := by subst h1; subst h2; rfl
set_option maxHeartbeats 4000000 in
/-- The closed facts of the program, each checked by itself. -/
theorem joined : joinedFacts Tryd.prog 5 Tryd.f5 Rows.fnExactFormatNetworkSpec Rows.fnExactFormatNetworkRow = true := by
  unfold joinedFacts
  repeat' (with_reducible apply band)
  all_goals (as_aux_lemma => kernel_rfl)

theorem over : Rows.fnExactFormatNetworkRow.holds Tryd.pinned (OpenSpec.ofChange Rows.fnExactFormatNetworkSpec) :=
  OpenClaim.holds_of_wide 5 Tryd.f5 rfl rfl rfl rfl rfl rfl rfl ⟨rfl, rfl, rfl, rfl, rfl⟩ rfl rfl rfl rfl rfl (by as_aux_lemma => kernel_rfl) Tryd.func5 joined
    (of_decide_eq_true (by as_aux_lemma => kernel_rfl)) (by unfold Func.isWrapper; first | (rw [if_pos (by decide +kernel)]; kernel_rfl) | (rw [if_neg (by decide +kernel)]; exact ⟨rfl, rfl⟩))
    (fun os started H enc _ => lifted os started H enc)

theorem proved : Rows.FnExactFormatNetworkCardSaid :=
  Claim7.holds_tied_plain_at .later [] [.data, .data, .data] true (true, "7c18cedf30e1b9b2167282de768c6d21ee992e319542861866224080db038226") false
    over (fun _ h => by cases h) (by kernel_rfl) (fun _ h => by cases h) fnExactFormatNetwork_row_tie rfl ⟨rfl, rfl⟩ (by kernel_rfl) rfl
    (fun f fn hf hfn => by
      obtain rfl : f = 5 := Option.some.inj ((show Tryd.prog.funcNamed "loop.example/g03207/laws.FnExactFormatNetwork" = some 5 by kernel_rfl).symm.trans hf) |>.symm
      obtain rfl : fn = Tryd.f5 := (Option.some.inj (Tryd.func5.symm.trans hfn)).symm
      exact ⟨by kernel_rfl, fun j t ht => by
        rw [Tryd.params5] at ht
        have hm : t ∈ [31] := by simpa using Array.mem_of_getElem? ht
        have hall : ([31].all fun u => !Tryd.prog.wantsStandIn u) = true := by kernel_rfl
        exact (show Tryd.prog.wantsStandIn t = false by simpa using List.all_eq_true.1 hall t hm)⟩)
    (by kernel_rfl)
end Go.Proofs.YtdbiidbnhmnebaaDoor.fnExactFormatNetwork
