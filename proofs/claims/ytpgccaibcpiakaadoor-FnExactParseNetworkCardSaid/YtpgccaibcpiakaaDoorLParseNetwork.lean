/- The statement FnExactParseNetwork: the law returns true for every input, and every input reads behind the call as it read before. No condition. -/
import Derived.Test.YtpgccaibcpiakaaDoorRows
import Derived.Test.YtpgccaibcpiakaaDoorTie
import Derived.Test.YtpgccaibcpiakaaDoorCards
import Derived.SevenTiedAt
import Derived.Test.YtpgccaibcpiakaaDoorDoor
import Derived.Test.YtpgccaibcpiakaaDoorPNet2
import Derived.Test.YtpgccaibcpiakaaDoorTab10
import Derived.Test.YtpgccaibcpiakaaDoorErrL
import Derived.Test.YtpgccaibcpiakaaDoorNetB
import Derived.Test.YtpgccaibcpiakaaDoorMark
import Derived.Test.YtpgccaibcpiakaaDoorOpenNet
namespace Go.Proofs.YtpgccaibcpiakaaDoor.fnExactParseNetwork
open Go.ChangeShapes Go.WideShapes Go.ChangeAt Go.RowKit Go.Proofs.YtpgccaibcpiakaaDoor
open Go.ChangeMaps (open_string shut_string)
set_option linter.unusedVariables false

set_option maxHeartbeats 4000000 in
set_option maxRecDepth 100000 in
theorem law (a0 : ByteArray) (w : World) (h0 : a0.size ≤ maxLen) (hT : Tab10 w) (hE : ErrV w) (hsh : w.ShapedOpen Tryd.prog) :
    Calls Tryd.prog 4 #[.string a0] w fun e w' => e = .returned (.bool true) ∧ Below w.heap.size w w' := by
  have hm0 := Lib.hid h0; unfold maxLen at h0
  have HT := Lib.hid hT
  have HE := Lib.hid hE
  have HS := Lib.hid hsh
  clear hT hE hsh
  have hd0 := pn_le a0
  have hb0 : (tf (PnP a0) != tf (PnP a0)) = false := by simp
  obtain ⟨W0, HW0⟩ : ∃ W0, Hid (W0 = w) := ⟨_, rfl⟩
  have BB : Below w.heap.size w W0 := by rw [HW0.out]; exact Below.refl _ _
  by_cases hl0 : a0.size ≤ 1048576
  · skip
    go_enter Tryd.func4, Tryd.ntmps4
    have B : Below W0.heap.size W0 W0 := Below.refl _ _
    go_wp2_with fail
    rw [← HW0.out]
    refine (specParseNetwork a0 _ hm0.out).mono ?_; rintro e w1 ⟨u1, rfl, R1, b1⟩
    have sw1 := b1.size
    replace B := B.trans (b1.mono (by omega))
    obtain ⟨p1, l1, c1, hu1⟩ := R1.shape; subst hu1
    go_wp2_with fail
    obtain ⟨w2, Hw2⟩ : ∃ W, Hid (W = w1.alloc (.cells #[.int .i64 (nbN (PnP a0) (bI a0 0)), (.slice p1 l1 c1)] 27)) := ⟨_, rfl⟩
    rw [← Hw2.out]
    have b2 : Below w1.heap.size w1 w2 := by rw [Hw2.out]; exact (Below.refl _ _).alloc (Nat.le_refl _) _
    replace R1 := R1.below b2 (by omega)
    have sw2 := b2.size
    replace B := B.trans (b2.mono (by omega))
    have cx2 : w2.cell? ⟨w1.heap.size, 0, none⟩ = some (.int .i64 (nbN (PnP a0) (bI a0 0))) := by rw [Hw2.out]; simp [go_sem]
    have cy2 : w2.cell? ⟨w1.heap.size, 1, none⟩ = some (.slice p1 l1 c1) := by rw [Hw2.out]; simp [go_sem]
    have z2 : w1.heap.size < w2.heap.size := by rw [Hw2.out]; simp
    clear Hw2
    refine (implParseNetwork a0 _ hm0.out hl0 (HT.out.below (BB.trans (B.mono BB.size))) (HE.out.below (BB.trans (B.mono BB.size))) (shaped_below HS.out (BB.trans (B.mono BB.size)))).mono ?_; rintro e w3 ⟨u3, rfl, R3, b3⟩
    replace R1 := R1.below b3 (by omega)
    replace cx2 := Below.keeps b3 _ _ cx2
    replace cy2 := Below.keeps b3 _ _ cy2
    have sw3 := b3.size
    replace B := B.trans (b3.mono (by omega))
    obtain ⟨p3, l3, c3, hu3⟩ := R3.shape; subst hu3
    have : w1.heap.size < w3.heap.size := by omega
    go_wp2_with fail
    obtain ⟨w4, Hw4⟩ : ∃ W, Hid (W = w3.alloc (.cells #[.int .i64 (nbN (PnP a0) (bI a0 0)), (.slice p3 l3 c3)] 27)) := ⟨_, rfl⟩
    rw [← Hw4.out]
    have b4 : Below w3.heap.size w3 w4 := by rw [Hw4.out]; exact (Below.refl _ _).alloc (Nat.le_refl _) _
    replace R1 := R1.below b4 (by omega)
    replace R3 := R3.below b4 (by omega)
    replace cx2 := Below.keeps b4 _ _ cx2
    replace cy2 := Below.keeps b4 _ _ cy2
    have sw4 := b4.size
    replace B := B.trans (b4.mono (by omega))
    have cx4 : w4.cell? ⟨w3.heap.size, 0, none⟩ = some (.int .i64 (nbN (PnP a0) (bI a0 0))) := by rw [Hw4.out]; simp [go_sem]
    have cy4 : w4.cell? ⟨w3.heap.size, 1, none⟩ = some (.slice p3 l3 c3) := by rw [Hw4.out]; simp [go_sem]
    have z4 : w3.heap.size < w4.heap.size := by rw [Hw4.out]; simp
    clear Hw4
    refine (eqNetwork_yes _ _ _ _ _ R3.intss R1.intss).mono ?_; rintro e w5 ⟨rfl, b5⟩
    replace R1 := R1.below b5 (by omega)
    replace R3 := R3.below b5 (by omega)
    replace cx2 := Below.keeps b5 _ _ cx2
    replace cy2 := Below.keeps b5 _ _ cy2
    replace cx4 := Below.keeps b5 _ _ cx4
    replace cy4 := Below.keeps b5 _ _ cy4
    have sw5 := b5.size
    replace B := B.trans (b5.mono (by omega))
    go_wp2_with fail
    refine (markNetwork _ _ _ _ (nbR (PnP a0) (pnR a0 (pnK a0))) ((1 : Int)) _ R3 (by omega) (by omega) (by omega)).mono ?_; rintro e w6 ⟨rfl, R3, c6⟩
    replace R1 := R1.chg c6 (by omega)
    replace cx2 := chg_cell c6 (by omega) cx2
    replace cy2 := chg_cell c6 (by omega) cy2
    replace cx4 := chg_cell c6 (by omega) cx4
    replace cy4 := chg_cell c6 (by omega) cy4
    have sw6 := c6.size
    replace B := B.trans (c6.below (by omega) (by omega))
    go_wp2_with fail
    refine (heldNetwork _ _ (nbR (PnP a0) (pnR a0 (pnK a0))) ((1 : Int)) _ R3.intss (by omega) (by omega)).mono ?_; rintro e w7 ⟨rfl, b7⟩
    replace R1 := R1.below b7 (by omega)
    replace R3 := R3.below b7 (by omega)
    replace cx2 := Below.keeps b7 _ _ cx2
    replace cy2 := Below.keeps b7 _ _ cy2
    replace cx4 := Below.keeps b7 _ _ cx4
    replace cy4 := Below.keeps b7 _ _ cy4
    have sw7 := b7.size
    replace B := B.trans (b7.mono (by omega))
    have hqm : (((1 : Int) + (sumLen (nbR (PnP a0) (pnR a0 (pnK a0))) : Int)) != ((1 : Int) + (sumLen (nbR (PnP a0) (pnR a0 (pnK a0))) : Int))) = false := by simp
    go_wp2_with fail
    refine (implParseNetwork a0 _ hm0.out hl0 (HT.out.below (BB.trans (B.mono BB.size))) (HE.out.below (BB.trans (B.mono BB.size))) (shaped_below HS.out (BB.trans (B.mono BB.size)))).mono ?_; rintro e w8 ⟨u8, rfl, R8, b8⟩
    replace R1 := R1.below b8 (by omega)
    replace R3 := R3.below b8 (by omega)
    replace cx2 := Below.keeps b8 _ _ cx2
    replace cy2 := Below.keeps b8 _ _ cy2
    replace cx4 := Below.keeps b8 _ _ cx4
    replace cy4 := Below.keeps b8 _ _ cy4
    have sw8 := b8.size
    replace B := B.trans (b8.mono (by omega))
    obtain ⟨p8, l8, c8, hu8⟩ := R8.shape; subst hu8
    have : w1.heap.size < w8.heap.size := by omega
    have : w3.heap.size < w8.heap.size := by omega
    go_wp2_with fail
    obtain ⟨w9, Hw9⟩ : ∃ W, Hid (W = w8.alloc (.cells #[.int .i64 (nbN (PnP a0) (bI a0 0)), (.slice p8 l8 c8)] 27)) := ⟨_, rfl⟩
    rw [← Hw9.out]
    have b9 : Below w8.heap.size w8 w9 := by rw [Hw9.out]; exact (Below.refl _ _).alloc (Nat.le_refl _) _
    replace R1 := R1.below b9 (by omega)
    replace R3 := R3.below b9 (by omega)
    replace R8 := R8.below b9 (by omega)
    replace cx2 := Below.keeps b9 _ _ cx2
    replace cy2 := Below.keeps b9 _ _ cy2
    replace cx4 := Below.keeps b9 _ _ cx4
    replace cy4 := Below.keeps b9 _ _ cy4
    have sw9 := b9.size
    replace B := B.trans (b9.mono (by omega))
    have cx9 : w9.cell? ⟨w8.heap.size, 0, none⟩ = some (.int .i64 (nbN (PnP a0) (bI a0 0))) := by rw [Hw9.out]; simp [go_sem]
    have cy9 : w9.cell? ⟨w8.heap.size, 1, none⟩ = some (.slice p8 l8 c8) := by rw [Hw9.out]; simp [go_sem]
    have z9 : w8.heap.size < w9.heap.size := by rw [Hw9.out]; simp
    clear Hw9
    refine (eqNetwork_yes _ _ _ _ _ R8.intss R1.intss).mono ?_; rintro e w10 ⟨rfl, b10⟩
    replace R1 := R1.below b10 (by omega)
    replace R3 := R3.below b10 (by omega)
    replace R8 := R8.below b10 (by omega)
    replace cx2 := Below.keeps b10 _ _ cx2
    replace cy2 := Below.keeps b10 _ _ cy2
    replace cx4 := Below.keeps b10 _ _ cx4
    replace cy4 := Below.keeps b10 _ _ cy4
    replace cx9 := Below.keeps b10 _ _ cx9
    replace cy9 := Below.keeps b10 _ _ cy9
    have sw10 := b10.size
    replace B := B.trans (b10.mono (by omega))
    go_wp2_with fail
    refine (heldNetwork _ _ (nbR (PnP a0) (pnR a0 (pnK a0))) ((1 : Int)) _ R3.intss (by omega) (by omega)).mono ?_; rintro e w11 ⟨rfl, b11⟩
    replace R1 := R1.below b11 (by omega)
    replace R3 := R3.below b11 (by omega)
    replace R8 := R8.below b11 (by omega)
    replace cx2 := Below.keeps b11 _ _ cx2
    replace cy2 := Below.keeps b11 _ _ cy2
    replace cx4 := Below.keeps b11 _ _ cx4
    replace cy4 := Below.keeps b11 _ _ cy4
    replace cx9 := Below.keeps b11 _ _ cx9
    replace cy9 := Below.keeps b11 _ _ cy9
    have sw11 := b11.size
    replace B := B.trans (b11.mono (by omega))
    have hqm : (((1 : Int) + (sumLen (nbR (PnP a0) (pnR a0 (pnK a0))) : Int)) != ((1 : Int) + (sumLen (nbR (PnP a0) (pnR a0 (pnK a0))) : Int))) = false := by simp
    have BE := BB.trans (B.mono BB.size)
    go_wp2
    go_ret
    exact ⟨rfl, BE⟩
  · skip
    go_enter Tryd.func4, Tryd.ntmps4
    go_wp2
    go_ret
    exact ⟨rfl, Below.refl _ _⟩


set_option maxRecDepth 100000 in
theorem door_met (os : Os) (args : Array Value) : laidMetH Tryd.prog Rows.fnExactParseNetworkRow.laid ((World.laidAll Tryd.prog os Rows.fnExactParseNetworkRow.laid).forCall (fun _ _ => 0) ⟨#[], args, []⟩).memory := by
  rw [MakeChecks.laidMetH_plain _ _ _ (by kernel_rfl)]
  exact laidMet_laidAll args (by kernel_rfl) (by kernel_rfl)
set_option maxRecDepth 100000 in
theorem lifted (os : Os) (started : os.Started) (H : Type) (enc : TypeId × Value → H) :
    ReturnsInHanded {} Tryd.checked os 4 .any (fun w args => (Rows.fnExactParseNetworkSpec.pre enc Tryd.prog Tryd.f4 [] false w args ∧ laidMetH Tryd.prog Rows.fnExactParseNetworkRow.laid w) ∧ sizedMet enc Tryd.prog Tryd.f4 (OpenSpec.ofChange Rows.fnExactParseNetworkSpec) false w args) (Rows.fnExactParseNetworkSpec.post enc Tryd.prog Tryd.f4 false true false false) := by
  refine returnsLaid (C := Tryd.checked) (X := fun w _ => laidMetH Tryd.prog Rows.fnExactParseNetworkRow.laid w) (fun _ _ _ hh h => h.of_heap hh) own started (by kernel_rfl) Tryd.func4
    (ChangeSpec.witness_shaped (enc := enc) (C := Tryd.checked) (os := os) (X := fun w _ => laidMetH Tryd.prog Rows.fnExactParseNetworkRow.laid w) false (World.laidAll Tryd.prog os Rows.fnExactParseNetworkRow.laid) #[.string ByteArray.empty] 8 (World.laidAll_os _ _ _) (World.shaped_of_ZipB (by kernel_rfl) (by kernel_rfl)) (by kernel_rfl) (by kernel_rfl) (by kernel_rfl) (door_met os _)) ?_
  intro W base args ds gs before hval0 hW hsh hL0
  have hL := hL0
  rw [MakeChecks.laidMetH_plain _ _ _ (by kernel_rfl)] at hL
  have hval : ∀ (j : Nat) t v, Tryd.f4.params[j]? = some t → args[j]? = some v → Value.okWide Tryd.prog W .any base t v := hval0
  have hW' := hW
  obtain ⟨p, q, hA0, hV, rfl, hfz, hnd⟩ := hW
  have hA : DataW.TrodAll enc Tryd.prog W 0 (fun _ => true) true Tryd.f4.params.toList args.toList ds p := hA0
  rw [Tryd.params4] at hA hval
  obtain ⟨v0, vs0, d0, ds0, p0, q0, hargs, rfl, rfl, h0, r0⟩ := trodAll_cons hA
  obtain ⟨rfl, rfl, rfl⟩ := trodAll_nil r0
  obtain rfl : args = #[v0] := by cases args; simp_all
  obtain ⟨rfl, rfl⟩ := trodVars_none hV
  have k0 := h0
  have lt0 : ∀ x ∈ p0, x.block < W.heap.size := by obtain ⟨m, hm⟩ := k0; exact DataW.trod_lt m _ _ _ hm
  obtain ⟨a0, rfl, hd0, hp0, w0⟩ := open_string Tryd.underlying9 (hval 0 9 v0 rfl rfl) h0
  clear hA0 hval0
  refine (law a0 W w0 (tab10_head hL.tail.tail) (errV_head hL.tail.tail.tail.tail) hsh).mono fun e W' ⟨he, bel⟩ => ?_
  subst he
  exact ⟨_, rfl, _, _, _, [], _, [], hW', trodAll_mk1 (shut_bool Tryd.underlying4 _), (trodAll_cons_mk (Below.trod laidOut (by kernel_rfl) (of_decide_eq_true (by kernel_rfl)) k0 bel lt0) trodAll_mk0), rfl, bel.frame _, fun h => by cases h⟩

theorem band {a b : Bool} (h1 : a = true) (h2 : b = true) : (a && b) = true := by subst h1; subst h2; rfl
set_option maxHeartbeats 4000000 in
/-- The closed facts of the program, each checked by itself. -/
theorem joined : joinedFacts Tryd.prog 4 Tryd.f4 Rows.fnExactParseNetworkSpec Rows.fnExactParseNetworkRow = true := by
  unfold joinedFacts
  repeat' (with_reducible apply band)
  all_goals (as_aux_lemma => kernel_rfl)

theorem over : Rows.fnExactParseNetworkRow.holds Tryd.pinned (OpenSpec.ofChange Rows.fnExactParseNetworkSpec) :=
  OpenClaim.holds_of_wide 4 Tryd.f4 rfl rfl rfl rfl rfl rfl rfl ⟨rfl, rfl, rfl, rfl, rfl⟩ rfl rfl rfl rfl rfl (by as_aux_lemma => kernel_rfl) Tryd.func4 joined
    (of_decide_eq_true (by as_aux_lemma => kernel_rfl)) (by unfold Func.isWrapper; first | (rw [if_pos (by decide +kernel)]; kernel_rfl) | (rw [if_neg (by decide +kernel)]; exact ⟨rfl, rfl⟩))
    (fun os started H enc _ => lifted os started H enc)

theorem proved : Rows.FnExactParseNetworkCardSaid :=
  Claim7.holds_tied_plain_at .later [] [.data, .data, .data, .data, .sentinel, .sentinel, .pinned] true (true, "e07abb59151ab0c84fc2964dfea54a3a71c8c0ba20affc88a9d5deba8c3cfadb") true
    over (fun _ h => by cases h) (by kernel_rfl) (fun _ h => by cases h) fnExactParseNetwork_row_tie rfl ⟨rfl, rfl⟩ (by kernel_rfl) rfl
    (fun f fn hf hfn => by
      obtain rfl : f = 4 := Option.some.inj ((show Tryd.prog.funcNamed "loop.example/g03207/laws.FnExactParseNetwork" = some 4 by kernel_rfl).symm.trans hf) |>.symm
      obtain rfl : fn = Tryd.f4 := (Option.some.inj (Tryd.func4.symm.trans hfn)).symm
      exact ⟨by kernel_rfl, fun j t ht => by
        rw [Tryd.params4] at ht
        have hm : t ∈ [9] := by simpa using Array.mem_of_getElem? ht
        have hall : ([9].all fun u => !Tryd.prog.wantsStandIn u) = true := by kernel_rfl
        exact (show Tryd.prog.wantsStandIn t = false by simpa using List.all_eq_true.1 hall t hm)⟩)
    (by kernel_rfl)
end Go.Proofs.YtpgccaibcpiakaaDoor.fnExactParseNetwork
