/- The statement FnExactSplitLines: the law returns true for every input, and every input reads behind the call as it read before. No condition. -/
import Derived.Test.YtdbiidbnhmnebaaDoorRows
import Derived.Test.YtdbiidbnhmnebaaDoorTie
import Derived.Test.YtdbiidbnhmnebaaDoorCards
import Derived.SevenTiedAt
import Derived.Test.YtdbiidbnhmnebaaDoorDoor
import Derived.Test.YtdbiidbnhmnebaaDoorLines
import Derived.Test.YtdbiidbnhmnebaaDoorMarkS
namespace Go.Proofs.YtdbiidbnhmnebaaDoor.fnExactSplitLines
open Go.ChangeShapes Go.WideShapes Go.ChangeAt Go.RowKit Go.Proofs.YtdbiidbnhmnebaaDoor
open Go.ChangeMaps (open_string shut_string)
set_option linter.unusedVariables false

set_option maxHeartbeats 4000000 in
set_option maxRecDepth 100000 in
theorem law (a0 : ByteArray) (w : World) (h0 : a0.size ≤ maxLen) (hsh : w.ShapedOpen Tryd.prog) :
    Calls Tryd.prog 4 #[.string a0] w fun e w' => e = .returned (.bool true) ∧ Below w.heap.size w w' := by
  have hm0 := Lib.hid h0; unfold maxLen at h0
  have hd0 := slL_le a0
  obtain ⟨W0, HW0⟩ : ∃ W0, Hid (W0 = w) := ⟨_, rfl⟩
  have HSH : Hid (∀ W, Below W0.heap.size W0 W → W.ShapedOpen Tryd.prog) := fun W hb => shaped_below (by rw [HW0.out]; exact hsh) hb
  clear hsh
  have BB : Below w.heap.size w W0 := by rw [HW0.out]; exact Below.refl _ _
  by_cases hl0 : a0.size ≤ 1048576
  · skip
    go_enter Tryd.func4, Tryd.ntmps4
    have B : Below W0.heap.size W0 W0 := Below.refl _ _
    go_wp2_with fail
    rw [← HW0.out]
    refine (specSplitLines a0 _ hm0.out hl0).mono ?_; rintro e w1 ⟨u1, rfl, R1, b1⟩
    have sw1 := b1.size
    replace B := B.trans (b1.mono (by omega))
    go_wp2_with fail
    refine (implSplitLines a0 _ hm0.out hl0 (HSH.out _ B)).mono ?_; rintro e w2 ⟨u2, rfl, R2, b2⟩
    replace R1 := R1.below b2 (by omega)
    have sw2 := b2.size
    replace B := B.trans (b2.mono (by omega))
    go_wp2_with fail
    refine (eqStringS_yes _ _ _ _ R2.strs R1.strs).mono ?_; rintro e w3 ⟨rfl, b3⟩
    replace R1 := R1.below b3 (by omega)
    replace R2 := R2.below b3 (by omega)
    have sw3 := b3.size
    replace B := B.trans (b3.mono (by omega))
    go_wp2_with fail
    refine (markStringS1 _ _ _ (slL a0) _ R2 (by omega) (by omega)).mono ?_; rintro e w4 ⟨rfl, R2, c4⟩
    replace R1 := R1.chg c4 (by omega)
    have sw4 := c4.size
    replace B := B.trans (c4.below (by omega) (by omega))
    go_wp2_with fail
    refine (heldStringS1 _ (slL a0).length _ R2.strs (by omega)).mono ?_; rintro e w5 ⟨rfl, b5⟩
    replace R1 := R1.below b5 (by omega)
    replace R2 := R2.below b5 (by omega)
    have sw5 := b5.size
    replace B := B.trans (b5.mono (by omega))
    have hqm : (((1 : Int) + ((slL a0).length : Int)) != ((1 : Int) + ((slL a0).length : Int))) = false := by simp
    go_wp2_with fail
    refine (implSplitLines a0 _ hm0.out hl0 (HSH.out _ B)).mono ?_; rintro e w6 ⟨u6, rfl, R6, b6⟩
    replace R1 := R1.below b6 (by omega)
    replace R2 := R2.below b6 (by omega)
    have sw6 := b6.size
    replace B := B.trans (b6.mono (by omega))
    go_wp2_with fail
    refine (eqStringS_yes _ _ _ _ R6.strs R1.strs).mono ?_; rintro e w7 ⟨rfl, b7⟩
    replace R1 := R1.below b7 (by omega)
    replace R2 := R2.below b7 (by omega)
    replace R6 := R6.below b7 (by omega)
    have sw7 := b7.size
    replace B := B.trans (b7.mono (by omega))
    go_wp2_with fail
    refine (heldStringS1 _ (slL a0).length _ R2.strs (by omega)).mono ?_; rintro e w8 ⟨rfl, b8⟩
    replace R1 := R1.below b8 (by omega)
    replace R2 := R2.below b8 (by omega)
    replace R6 := R6.below b8 (by omega)
    have sw8 := b8.size
    replace B := B.trans (b8.mono (by omega))
    have hqm : (((1 : Int) + ((slL a0).length : Int)) != ((1 : Int) + ((slL a0).length : Int))) = false := by simp
    have BE := BB.trans (B.mono BB.size)
    go_wp2
    go_ret
    exact ⟨rfl, BE⟩
  · skip
    go_enter Tryd.func4, Tryd.ntmps4
    go_wp2
    go_ret
    exact ⟨rfl, Below.refl _ _⟩


set_option maxRecDepth 100000 in
theorem door_met (os : Os) (args : Array Value) : laidMetH Tryd.prog Rows.fnExactSplitLinesRow.laid ((World.laidAll Tryd.prog os Rows.fnExactSplitLinesRow.laid).forCall (fun _ _ => 0) ⟨#[], args, []⟩).memory := by
  rw [MakeChecks.laidMetH_plain _ _ _ (by kernel_rfl)]
  exact laidMet_laidAll args (by kernel_rfl) (by kernel_rfl)
set_option maxRecDepth 100000 in
theorem lifted (os : Os) (started : os.Started) (H : Type) (enc : TypeId × Value → H) :
    ReturnsInHanded {} Tryd.checked os 4 .any (fun w args => (Rows.fnExactSplitLinesSpec.pre enc Tryd.prog Tryd.f4 [] false w args ∧ laidMetH Tryd.prog Rows.fnExactSplitLinesRow.laid w) ∧ sizedMet enc Tryd.prog Tryd.f4 (OpenSpec.ofChange Rows.fnExactSplitLinesSpec) false w args) (Rows.fnExactSplitLinesSpec.post enc Tryd.prog Tryd.f4 false true false false) := by
  refine returnsLaid (C := Tryd.checked) (X := fun w _ => laidMetH Tryd.prog Rows.fnExactSplitLinesRow.laid w) (fun _ _ _ hh h => h.of_heap hh) own started (by kernel_rfl) Tryd.func4
    (ChangeSpec.witness_shaped (enc := enc) (C := Tryd.checked) (os := os) (X := fun w _ => laidMetH Tryd.prog Rows.fnExactSplitLinesRow.laid w) false (World.laidAll Tryd.prog os Rows.fnExactSplitLinesRow.laid) #[.string ByteArray.empty] 8 (World.laidAll_os _ _ _) (World.shaped_of_ZipB (by kernel_rfl) (by kernel_rfl)) (by kernel_rfl) (by kernel_rfl) (by kernel_rfl) (door_met os _)) ?_
  intro W base args ds gs before hval0 hW hsh hL0
  have hL := hL0
  rw [MakeChecks.laidMetH_plain _ _ _ (by kernel_rfl)] at hL
  have hval : ∀ (j : Nat) t v, Tryd.f4.params[j]? = some t → args[j]? = some v → Value.okWide Tryd.prog W .any base t v := hval0
  have hW' := hW
  obtain ⟨p, q, hA0, hV, rfl, hfz, hnd⟩ := hW
  have hA : DataW.TrodAll enc Tryd.prog W 0 (fun _ => true) true Tryd.f4.params.toList args.toList ds p := hA0
  rw [Tryd.params4] at hA hval
  obtain ⟨v0, vs0, d0, ds0, p0, q0, hargs, rfl, rfl, h0, r0⟩ := trodAll_cons hA
  obtain ⟨rfl, rfl, rfl⟩ := trodAll_nil r0
  obtain rfl : args = #[v0] := by cases args; simp_all
  obtain ⟨rfl, rfl⟩ := trodVars_none hV
  have k0 := h0
  have lt0 : ∀ x ∈ p0, x.block < W.heap.size := by obtain ⟨m, hm⟩ := k0; exact DataW.trod_lt m _ _ _ hm
  obtain ⟨a0, rfl, hd0, hp0, w0⟩ := open_string Tryd.underlying9 (hval 0 9 v0 rfl rfl) h0
  clear hA0 hval0
  refine (law a0 W w0 hsh).mono fun e W' ⟨he, bel⟩ => ?_
  subst he
  exact ⟨_, rfl, _, _, _, [], _, [], hW', trodAll_mk1 (shut_bool Tryd.underlying4 _), (trodAll_cons_mk (Below.trod laidOut (by kernel_rfl) (of_decide_eq_true (by kernel_rfl)) k0 bel lt0) trodAll_mk0), rfl, bel.frame _, fun h => by cases h⟩

theorem band {a b : Bool} (h1 : a = true) (h2 : b = true) : (a && b) = true := by subst h1; subst h2; rfl
set_option maxHeartbeats 4000000 in
/-- The closed facts of the program, each checked by itself. -/
theorem joined : joinedFacts Tryd.prog 4 Tryd.f4 Rows.fnExactSplitLinesSpec Rows.fnExactSplitLinesRow = true := by
  unfold joinedFacts
  repeat' (with_reducible apply band)
  all_goals (as_aux_lemma => kernel_rfl)

theorem over : Rows.fnExactSplitLinesRow.holds Tryd.pinned (OpenSpec.ofChange Rows.fnExactSplitLinesSpec) :=
  OpenClaim.holds_of_wide 4 Tryd.f4 rfl rfl rfl rfl rfl rfl rfl ⟨rfl, rfl, rfl, rfl, rfl⟩ rfl rfl rfl rfl rfl (by as_aux_lemma => kernel_rfl) Tryd.func4 joined
    (of_decide_eq_true (by as_aux_lemma => kernel_rfl)) (by unfold Func.isWrapper; first | (rw [if_pos (by decide +kernel)]; kernel_rfl) | (rw [if_neg (by decide +kernel)]; exact ⟨rfl, rfl⟩))
    (fun os started H enc _ => lifted os started H enc)

theorem proved : Rows.FnExactSplitLinesCardSaid :=
  Claim7.holds_tied_plain_at .later [] [.data, .pinned] true (true, "7c18cedf30e1b9b2167282de768c6d21ee992e319542861866224080db038226") false
    over (fun _ h => by cases h) (by kernel_rfl) (fun _ h => by cases h) fnExactSplitLines_row_tie rfl ⟨rfl, rfl⟩ (by kernel_rfl) rfl
    (fun f fn hf hfn => by
      obtain rfl : f = 4 := Option.some.inj ((show Tryd.prog.funcNamed "loop.example/g03207/laws.FnExactSplitLines" = some 4 by kernel_rfl).symm.trans hf) |>.symm
      obtain rfl : fn = Tryd.f4 := (Option.some.inj (Tryd.func4.symm.trans hfn)).symm
      exact ⟨by kernel_rfl, fun j t ht => by
        rw [Tryd.params4] at ht
        have hm : t ∈ [9] := by simpa using Array.mem_of_getElem? ht
        have hall : ([9].all fun u => !Tryd.prog.wantsStandIn u) = true := by kernel_rfl
        exact (show Tryd.prog.wantsStandIn t = false by simpa using List.all_eq_true.1 hall t hm)⟩)
    (by kernel_rfl)
end Go.Proofs.YtdbiidbnhmnebaaDoor.fnExactSplitLines
