/- The statement FnWords: the law returns true for every input, and every input reads behind the call as it read before. No condition. -/
import Derived.Test.YtifdjdhnfnincaaDoorRows
import Derived.Test.YtifdjdhnfnincaaDoorTie
import Derived.Test.YtifdjdhnfnincaaDoorCards
import Derived.SevenTiedAt
import Derived.Test.YtifdjdhnfnincaaDoorDoor
import Derived.Test.YtifdjdhnfnincaaDoorMakeT
import Derived.Test.YtifdjdhnfnincaaDoorPInt2
import Derived.Test.YtifdjdhnfnincaaDoorTab10
import Derived.Test.YtifdjdhnfnincaaDoorErrL
import Derived.Test.YtifdjdhnfnincaaDoorText1
import Derived.Test.YtifdjdhnfnincaaDoorLines
namespace Go.Proofs.YtifdjdhnfnincaaDoor.fnWords
open Go.ChangeShapes Go.WideShapes Go.ChangeAt Go.RowKit Go.Proofs.YtifdjdhnfnincaaDoor
open Go.ChangeMaps (open_string shut_string)
set_option linter.unusedVariables false

theorem name_x1 : tf (NameOk ⟨#[120, 49]⟩) = true := tf_yes ⟨fun j h => by
  have h2 : j < 2 := h
  rcases (by omega : j = 0 ∨ j = 1) with rfl | rfl
  · exact .inl (by show 97 ≤ ((120 : UInt8).toNat : Int) ∧ ((120 : UInt8).toNat : Int) ≤ 122; decide)
  · exact .inr (by show (1 : Nat) ≠ 0 ∧ 48 ≤ ((49 : UInt8).toNat : Int) ∧ ((49 : UInt8).toNat : Int) ≤ 57; decide), by decide, by decide⟩
theorem two_lines : (slL ⟨#[97, 10, 98, 10]⟩).length = 2 := by decide +kernel
theorem sumSize_spl (s b : ByteArray) (h : s.size ≤ 14) : sumSize (splL s b) ≤ 15 * 14 := by
  have h1 := splL_len s b
  have h2 : ∀ x ∈ splL s b, x.size ≤ 14 := by
    intro x hx
    unfold splL at hx
    rcases List.mem_append.1 hx with h3 | h3
    · exact Nat.le_trans ((spl_le s b s.size).2.2 x h3) h
    · simp only [List.mem_singleton] at h3; subst h3; rw [ByteArray.size_extract]; omega
  have key : ∀ (l : List ByteArray), (∀ x ∈ l, x.size ≤ 14) → sumSize l ≤ l.length * 14 := by
    intro l
    induction l with
    | nil => intro _; simp [sumSize]
    | cons x l ih =>
      intro hx
      have := ih fun y hy => hx y (by simp [hy])
      have := hx x (by simp)
      simp [sumSize] at *; omega
  have := key _ h2
  omega
set_option maxHeartbeats 4000000 in
set_option maxRecDepth 100000 in
theorem law (v0 : Value) (x0 : List Int) (w : World) (I0 : Bytes w v0 x0) (hT : Tab10 w) (hE : ErrV w) (hsh : w.ShapedOpen Tryd.prog) :
    Calls Tryd.prog 3 #[v0] w fun e w' => e = .returned (.bool true) ∧ Below w.heap.size w w' := by
  have HI := Lib.hid I0
  obtain ⟨ao, cap, hv, hcap, hmax, _, _⟩ := I0
  unfold maxLen at hmax
  by_cases hl : x0.length ≤ 1048576
  · have HN := Lib.hid (makeNum w v0 x0 1 HI.out hl (by omega))
    have HMT : Hid (∀ W, Below w.heap.size w W → Calls Tryd.prog 7 #[v0] W fun e w' => ∃ s : ByteArray, s.size ≤ 14 ∧ e = .returned (.string s) ∧ Below W.heap.size W w') := fun W hb => makeText W v0 x0 (HI.out.keep (Below.keeps hb)) hl
    have HFI : Hid (∀ (n : Int) W, In64 n → Below w.heap.size w W → Calls Tryd.prog 6 #[.int .i64 n] W (GivesT W (itoaB n))) := fun n W hn hb => implFormatInt n W hn (hT.below hb)
    have HPI : Hid (∀ (s : ByteArray) W, s.size ≤ 100 → Below w.heap.size w W → Calls Tryd.prog 5 #[.string s] W (GivesIB W (piN s) (tf (PiP s)))) := fun s W hs hb => implParseInt s W (by unfold maxLen; omega) (by omega) (hT.below hb) (hE.below hb)
    have HSL : Hid (∀ W, Below w.heap.size w W → Calls Tryd.prog 11 #[.string ⟨#[97, 10, 98, 10]⟩] W (GivesSs W (slL ⟨#[97, 10, 98, 10]⟩))) := fun W hb => implSplitLines _ W (by decide) (by decide) (shaped_below hsh hb)
    clear hT hE hsh
    subst hv
    go_enter Tryd.func3, Tryd.ntmps3
    go_wp2_with fail
    refine HN.out.mono ?_; rintro e w1 ⟨n, hn, rfl, b1⟩
    have B1 := b1
    clear b1
    have hnz : In64 ((n : Int) - 30000) := (in64_iff _).2 (by omega)
    have HF := Lib.hid (HFI.out _ w1 hnz B1)
    have hs21 : (itoaB ((n : Int) - 30000)).size ≤ 21 := itoa_size _ hnz
    have HZ := pi_true (s := itoaB ((n : Int) - 30000)) hnz rfl
    clear hnz
    go_wp2_with fail
    refine HF.out.mono ?_; rintro e w2 ⟨rfl, b2⟩
    have B2 := B1.trans (b2.mono B1.size)
    clear b2
    have HP := Lib.hid (HPI.out (itoaB ((n : Int) - 30000)) w2 (by omega) B2)
    rw [HZ.out.1, HZ.out.2] at HP
    go_wp2_with fail
    refine HP.out.mono ?_; rintro e w3 ⟨rfl, b3⟩
    have B3 := B2.trans (b3.mono B2.size)
    clear b3
    go_wp2_with fail
    refine (HMT.out w3 B3).mono ?_; rintro e w4 ⟨s, hs, rfl, b4⟩
    have B4 := B3.trans (b4.mono B3.size)
    clear b4
    have hbe : (((n : Int) - 30000) == ((n : Int) - 30000)) = true := by simp
    go_wp2_with fail
    refine (implSplitAny s ⟨#[32]⟩ w4 (by unfold maxLen; omega) (by omega) (by decide) (by decide)).mono ?_; rintro e w5 ⟨u5, rfl, R5, b5⟩
    have B5 := B4.trans (b5.mono B4.size)
    clear b5
    have hl5 := splL_len s ⟨#[32]⟩
    have hs5 := sumSize_spl s ⟨#[32]⟩ hs
    have HJ := Lib.hid (implJoin u5 (splL s ⟨#[32]⟩) ⟨#[32]⟩ w5 R5.strs (by omega) (by decide) (by decide))
    rw [join_split] at HJ
    clear R5 hl5 hs5
    go_wp2_with fail
    refine HJ.out.mono ?_; rintro e w6 ⟨rfl, b6⟩
    have B6 := B5.trans (b6.mono B5.size)
    clear b6
    have hst : (s.toList == s.toList) = true := by simp
    have HNm := Lib.hid (implIsName ⟨#[120, 49]⟩ w6 (by decide))
    rw [name_x1] at HNm
    go_wp2_with fail
    refine HNm.out.mono ?_; rintro e w7 ⟨rfl, rfl⟩
    go_wp2_with fail
    refine (HSL.out _ B6).mono ?_; rintro e w8 ⟨u8, rfl, R8, b8⟩
    have B8 := B6.trans (b8.mono B6.size)
    obtain ⟨g8, c8, hu8, _⟩ := R8.addr (by rw [two_lines]; omega)
    rw [two_lines] at hu8
    subst hu8
    clear b8 R8
    go_wp2
    go_ret
    exact ⟨rfl, B8⟩
  · subst hv
    go_enter Tryd.func3, Tryd.ntmps3
    go_wp2
    go_ret
    exact ⟨rfl, Below.refl _ _⟩


set_option maxRecDepth 100000 in
theorem door_met (os : Os) (args : Array Value) : laidMetH Tryd.prog Rows.fnWordsRow.laid ((World.laidAll Tryd.prog os Rows.fnWordsRow.laid).forCall (fun _ _ => 0) ⟨#[], args, []⟩).memory := by
  rw [MakeChecks.laidMetH_plain _ _ _ (by kernel_rfl)]
  exact laidMet_laidAll args (by kernel_rfl) (by kernel_rfl)
set_option maxRecDepth 100000 in
theorem lifted (os : Os) (started : os.Started) (H : Type) (enc : TypeId × Value → H) :
    ReturnsInHanded {} Tryd.checked os 3 .any (fun w args => (Rows.fnWordsSpec.pre enc Tryd.prog Tryd.f3 [] false w args ∧ laidMetH Tryd.prog Rows.fnWordsRow.laid w) ∧ sizedMet enc Tryd.prog Tryd.f3 (OpenSpec.ofChange Rows.fnWordsSpec) false w args) (Rows.fnWordsSpec.post enc Tryd.prog Tryd.f3 false true false false) := by
  refine returnsLaid (C := Tryd.checked) (X := fun w _ => laidMetH Tryd.prog Rows.fnWordsRow.laid w) (fun _ _ _ hh h => h.of_heap hh) own started (by kernel_rfl) Tryd.func3
    (ChangeSpec.witness_shaped (enc := enc) (C := Tryd.checked) (os := os) (X := fun w _ => laidMetH Tryd.prog Rows.fnWordsRow.laid w) false (World.laidAll Tryd.prog os Rows.fnWordsRow.laid) #[.slice none 0 0] 8 (World.laidAll_os _ _ _) (World.shaped_of_ZipB (by kernel_rfl) (by kernel_rfl)) (by kernel_rfl) (by kernel_rfl) (by kernel_rfl) (door_met os _)) ?_
  intro W base args ds gs before hval0 hW hsh hL0
  have hL := hL0
  rw [MakeChecks.laidMetH_plain _ _ _ (by kernel_rfl)] at hL
  have hval : ∀ (j : Nat) t v, Tryd.f3.params[j]? = some t → args[j]? = some v → Value.okWide Tryd.prog W .any base t v := hval0
  have hW' := hW
  obtain ⟨p, q, hA0, hV, rfl, hfz, hnd⟩ := hW
  have hA : DataW.TrodAll enc Tryd.prog W 0 (fun _ => true) true Tryd.f3.params.toList args.toList ds p := hA0
  rw [Tryd.params3] at hA hval
  obtain ⟨v0, vs0, d0, ds0, p0, q0, hargs, rfl, rfl, h0, r0⟩ := trodAll_cons hA
  obtain ⟨rfl, rfl, rfl⟩ := trodAll_nil r0
  obtain rfl : args = #[v0] := by cases args; simp_all
  obtain ⟨rfl, rfl⟩ := trodVars_none hV
  have k0 := h0
  have lt0 : ∀ x ∈ p0, x.block < W.heap.size := by obtain ⟨m, hm⟩ := k0; exact DataW.trod_lt m _ _ _ hm
  obtain ⟨x0, w0⟩ := Bytes.of_trod Tryd.underlying22 Tryd.underlying5 cellsByte (hval 0 22 v0 rfl rfl) h0
  clear hA0 hval0
  refine (law v0 x0 W w0 (tab10_head hL.tail.tail) (errV_head hL.tail.tail.tail.tail) hsh).mono fun e W' ⟨he, bel⟩ => ?_
  subst he
  exact ⟨_, rfl, _, _, _, [], _, [], hW', trodAll_mk1 (shut_bool Tryd.underlying4 _), (trodAll_cons_mk (Below.trod laidOut (by kernel_rfl) (of_decide_eq_true (by kernel_rfl)) k0 bel lt0) trodAll_mk0), rfl, bel.frame _, fun h => by cases h⟩

theorem band {a b : Bool} (h1 : a = true) (h2 : b = true) : (a && b) = true := by subst h1; subst h2; rfl
set_option maxHeartbeats 4000000 in
/-- The closed facts of the program, each checked by itself. -/
theorem joined : joinedFacts Tryd.prog 3 Tryd.f3 Rows.fnWordsSpec Rows.fnWordsRow = true := by
  unfold joinedFacts
  repeat' (with_reducible apply band)
  all_goals (as_aux_lemma => kernel_rfl)

theorem over : Rows.fnWordsRow.holds Tryd.pinned (OpenSpec.ofChange Rows.fnWordsSpec) :=
  OpenClaim.holds_of_wide 3 Tryd.f3 rfl rfl rfl rfl rfl rfl rfl ⟨rfl, rfl, rfl, rfl, rfl⟩ rfl rfl rfl rfl rfl (by as_aux_lemma => kernel_rfl) Tryd.func3 joined
    (of_decide_eq_true (by as_aux_lemma => kernel_rfl)) (by unfold Func.isWrapper; first | (rw [if_pos (by decide +kernel)]; kernel_rfl) | (rw [if_neg (by decide +kernel)]; exact ⟨rfl, rfl⟩))
    (fun os started H enc _ => lifted os started H enc)

theorem proved : Rows.FnWordsCardSaid :=
  Claim7.holds_tied_plain_at .later [] [.data, .data, .data, .data, .sentinel, .sentinel, .pinned] true (true, "97e55b891c8b2615d9b019cddfc7e42c7a36e2f6603f2830d9e9fb353bd0b4c0") true
    over (fun _ h => by cases h) (by kernel_rfl) (fun _ h => by cases h) fnWords_row_tie rfl ⟨rfl, rfl⟩ (by kernel_rfl) rfl
    (fun f fn hf hfn => by
      obtain rfl : f = 3 := Option.some.inj ((show Tryd.prog.funcNamed "loop.example/g03207/laws.FnWords" = some 3 by kernel_rfl).symm.trans hf) |>.symm
      obtain rfl : fn = Tryd.f3 := (Option.some.inj (Tryd.func3.symm.trans hfn)).symm
      exact ⟨by kernel_rfl, fun j t ht => by
        rw [Tryd.params3] at ht
        have hm : t ∈ [22] := by simpa using Array.mem_of_getElem? ht
        have hall : ([22].all fun u => !Tryd.prog.wantsStandIn u) = true := by kernel_rfl
        exact (show Tryd.prog.wantsStandIn t = false by simpa using List.all_eq_true.1 hall t hm)⟩)
    (by kernel_rfl)
end Go.Proofs.YtifdjdhnfnincaaDoor.fnWords
