/- Contracts of the laws' helpers on slices of slices and on networks: szIntS, szIntSS, szNetwork, toIntSS, toNetwork, eqIntSS, eqNetwork. -/
import Derived.Test.YthcnmaapcniehaaSlice
import Derived.Test.YthcnmaapcniehaaGrid
namespace Go.Proofs.Ythcnmaapcniehaa
open Go.RowKit
set_option linter.unusedVariables false

/-- A fresh slice of fresh rows comes back; nothing that was there has turned. -/
def GivesSS (w : World) (rows : List (List Int)) (en : Ending) (w' : World) : Prop := ∃ v, en = .returned v ∧ OwnSS tInt tInts w' w.heap.size w'.heap.size v rows ∧ Below w.heap.size w w'
/-- A network comes back, its rows fresh; nothing that was there has turned. -/
def GivesNet (w : World) (n : Int) (rows : List (List Int)) (en : Ending) (w' : World) : Prop :=
  ∃ v, en = .returned (.agg #[.int .i64 n, v]) ∧ OwnSS tInt tInts w' w.heap.size w'.heap.size v rows ∧ Below w.heap.size w w'

def szI (n : Nat) (left : Int) : Int := if (n : Int) ≤ left then left - n else -1
def szSS (rows : List (List Int)) (left : Int) : Int := szI (rows.length + sumLen rows) left

theorem szIntS (v : Value) (xs : List Int) (left : Int) (w : World) (h : Ints w v xs) (h0 : 0 ≤ left) (h1 : left ≤ 1048576) :
    Calls Try.prog 27 #[v, .int .i64 left] w fun e w' => e = .returned (.int .i64 (szI xs.length left)) ∧ w = w' := by
  obtain ⟨ao, cap, rfl, hcap, hmax, hnil, hcell⟩ := h
  clear hcell
  unfold maxLen at hmax
  by_cases hle : (xs.length : Int) ≤ left
  · have HE : Hid (szI xs.length left = left - xs.length) := by show _ = _; unfold szI; rw [if_pos hle]
    go_enter Try.func27, Try.ntmps27
    go_wp2
    go_ret
    exact ⟨ret_int HE.out.symm, rfl⟩
  · have HE : Hid (szI xs.length left = -1) := by show _ = _; unfold szI; rw [if_neg hle]
    go_enter Try.func27, Try.ntmps27
    go_wp2
    go_ret
    exact ⟨ret_int HE.out.symm, rfl⟩

set_option maxHeartbeats 400000 in
theorem szIntSS (v : Value) (rows : List (List Int)) (left : Int) (w : World) (h : IntSS w v rows) (h0 : 0 ≤ left) (h1 : left ≤ 1048576) :
    Calls Try.prog 11 #[v, .int .i64 left] w fun e w' => e = .returned (.int .i64 (szSS rows left)) ∧ w = w' := by
  obtain ⟨ao, cap, rfl, hcap, hmax, hnil, hcell⟩ := h
  have HC := Lib.hid hcell; clear hcell
  unfold maxLen at hmax
  by_cases hle : (rows.length : Int) ≤ left
  · go_enter Try.func11, Try.ntmps11
    go_wp2
    go_loop [1, 5] (fun q i => ∃ k : Nat, k ≤ rows.length ∧ i = .int .i64 k ∧ ∃ l : Int, q = .int .i64 l ∧ 0 ≤ l ∧ l ≤ left ∧ Hid (l = left - rows.length - sumLen (rows.take k))) (fun _ i => rows.length - (intOf i).toNat)
    case atStart => exact ⟨0, Nat.zero_le _, rfl, _, rfl, by omega, by omega, by show _ = _; simp [sumLen]⟩
    case round =>
      obtain ⟨k, hk, rfl, l, rfl, hl0, hl1, HL⟩ := hrel
      by_cases hlt : k < rows.length
      · obtain ⟨b, o, u, rfl, hu, hI⟩ := HC.out k hlt
        have HI := Lib.hid hI
        clear hI
        have hs := Lib.hid (sumLen_take_succ rows k hlt)
        by_cases hx : (rows[k].length : Int) ≤ l
        · have HE : Hid (szI rows[k].length l = l - rows[k].length) := by show _ = _; unfold szI; rw [if_pos hx]
          have e0 : 0 ≤ szI rows[k].length l := by rw [HE.out]; omega
          have e1 : szI rows[k].length l ≤ left := by rw [HE.out]; omega
          clear hx
          go_wp2_with (go_at_call 27; refine (szIntS _ rows[k] l _ HI.out hl0 (by omega)).mono ?_; rintro e w' ⟨rfl, rfl⟩)
          go_round
          case rel => exact ⟨k + 1, by omega, by go_num, _, rfl, e0, e1, by have := HL.out; have := hs.out; show _ = _; rw [HE.out]; omega⟩
          case measure => simp [intOf]; omega
        · have HE : Hid (szI rows[k].length l = -1) := by show _ = _; unfold szI; rw [if_neg hx]
          have e0 : szI rows[k].length l < 0 := by rw [HE.out]; omega
          have HF : Hid (szSS rows left = -1) := by
            show _ = _; unfold szSS szI
            rw [if_neg]
            have := HL.out; have := len_le_sumLen rows k hlt; omega
          clear hx
          go_wp2_with (go_at_call 27; refine (szIntS _ rows[k] l _ HI.out hl0 (by omega)).mono ?_; rintro e w' ⟨rfl, rfl⟩)
          go_ret
          exact ⟨ret_int HF.out.symm, rfl⟩
      · have HF : Hid (szSS rows left = l) := by
          show _ = _; unfold szSS szI
          have := HL.out; rw [List.take_of_length_le (by omega)] at this
          rw [if_pos (by omega)]; omega
        go_wp2
        go_ret
        exact ⟨ret_int HF.out.symm, rfl⟩
  · have HF : Hid (szSS rows left = -1) := by
      show _ = _; unfold szSS szI; rw [if_neg (by omega)]
    go_enter Try.func11, Try.ntmps11
    go_wp2
    go_ret
    exact ⟨ret_int HF.out.symm, rfl⟩

theorem szNetwork (n : Int) (v : Value) (rows : List (List Int)) (left : Int) (w : World) (h : IntSS w v rows) (h0 : 0 ≤ left) (h1 : left ≤ 1048576) :
    Calls Try.prog 4 #[.agg #[.int .i64 n, v], .int .i64 left] w (GivesN w (szSS rows left)) := by
  have HH := Lib.hid h
  have hk : Hid (∀ o, IntSS (w.alloc o) v rows) := fun o => h.keep (Below.keeps ((Below.refl _ _).alloc (Nat.le_refl _) o))
  by_cases hs : szSS rows left < 0
  · have he : Hid (szSS rows left = -1) := by
      show _ = _; unfold szSS szI at hs ⊢
      by_cases hc : ((rows.length + sumLen rows : Nat) : Int) ≤ left
      · rw [if_pos hc] at hs; omega
      · rw [if_neg hc]
    go_enter Try.func4, Try.ntmps4
    go_wp2_with (go_at_call 11; refine (szIntSS v rows left _ (hk.out _) h0 h1).mono ?_; rintro e w' ⟨rfl, rfl⟩)
    go_ret
    exact ⟨ret_int he.out.symm, (Below.refl _ _).alloc (Nat.le_refl _) _⟩
  · go_enter Try.func4, Try.ntmps4
    go_wp2_with (go_at_call 11; refine (szIntSS v rows left _ (hk.out _) h0 h1).mono ?_; rintro e w' ⟨rfl, rfl⟩)
    go_ret
    exact ⟨rfl, (Below.refl _ _).alloc (Nat.le_refl _) _⟩

set_option maxHeartbeats 800000 in
theorem toIntSS (v : Value) (rows : List (List Int)) (w : World) (h : IntSS w v rows) (hn : rows.length + sumLen rows ≤ 1048576) :
    Calls Try.prog 15 #[v] w (GivesSS w rows) := by
  obtain ⟨ao, cap, rfl, hcap, hmax, hnil, hcell⟩ := h
  have HC := Lib.hid hcell; clear hcell
  obtain ⟨i0, hi, hz0, hz1, hz2⟩ := info_parts infoInts
  go_enter Try.func15, Try.ntmps15
  go_wp2_with (at_make; refine wpList_make_full _ rfl _ _ 22 rfl w.heap.size 35 i0 (.slice none 0 0) 1 Try.underlying22 hi hz0 hz1 .i64 .i64 _ _ rows.length rfl rfl rfl rfl ?_ ?_ ?_ ?_)
  · rw [hz2]; omega
  · unfold maxLen; omega
  · exact Nat.le_refl _
  intro w1 hown hg
  have F0 : FillsV tInts w.heap.size w.heap.size rows.length w1 rows.length (List.replicate rows.length (.slice none 0 0)) := ⟨by simp, by simpa [toList_madeCells_one] using hown⟩
  have hb0 : Below w.heap.size w w1 := (Below.refl _ w).grown hg (Nat.le_refl _) (fun k h => by cases h)
  have hs0 : w.heap.size + 1 ≤ w1.heap.size := (hown.lt w.heap.size rfl).2
  clear hown hg hi hz0 hz1 hz2
  go_wp2
  go_loopw [4] (fun i wr => ∃ k : Nat, k ≤ rows.length ∧ i = .int .i64 k ∧ ∃ us : List Value, FillsV tInts w.heap.size w.heap.size rows.length wr rows.length us ∧ RowsOwn tInt wr (w.heap.size + 1) wr.heap.size (us.take k) (rows.take k) ∧ Below w.heap.size w wr ∧ w.heap.size + 1 ≤ wr.heap.size) (fun i _ => rows.length - (intOf i).toNat)
  case atStart => exact ⟨0, Nat.zero_le _, rfl, _, F0, RowsOwn.nil _ _ _ _, hb0, hs0⟩
  case round =>
    obtain ⟨k, hk, rfl, us, F, hR, hb, hs⟩ := hrel
    by_cases hlt : k < rows.length
    · obtain ⟨b, o, u, rfl, hu, hI⟩ := HC.out k hlt
      have c1 : wr.cell? ⟨b, o + k, none⟩ = some u := Below.keeps hb _ _ hu
      have HI := Lib.hid (hI.keep (Below.keeps hb))
      have hl := len_le_sumLen rows k hlt
      have HL : Hid (rows[k].length ≤ 1048576) := by show _ ≤ _; omega
      clear hu hI hl
      go_wp2_with fail
      refine (toIntS u rows[k] _ HI.out HL.out).mono ?_
      rintro e w2 ⟨v2, rfl, R2, b2⟩
      obtain ⟨a2, l2, cp2, hv2⟩ := R2.shape
      subst hv2
      have F2 := F.block (b2.block _ F.lt)
      have s2 := b2.size
      obtain ⟨z, c2, _⟩ := F2.cell k hlt
      have c3 := F2.frozen k
      have hus : us.length = rows.length := F.1
      have R1 := F2.set k (.slice a2 l2 cp2)
      have R3 := ((hR.below b2 (Nat.le_refl _)).snoc R2 (by omega) b2.size).chg (chg_setCell w2 w.heap.size k (.slice a2 l2 cp2)) (.inr (Nat.le_refl _))
      rw [← take_set' us k (.slice a2 l2 cp2) (by omega), ← List.take_succ_eq_append_getElem hlt] at R3
      have R4 : Below w.heap.size w (w2.setCell ⟨w.heap.size, k, none⟩ (.slice a2 l2 cp2)) := (hb.trans (b2.mono (by omega))).setCell (Nat.le_refl _) _
      have R5 : w.heap.size + 1 ≤ (w2.setCell ⟨w.heap.size, k, none⟩ (.slice a2 l2 cp2)).heap.size := by simp [World.setCell]; omega
      have R3' : RowsOwn tInt (w2.setCell ⟨w.heap.size, k, none⟩ (.slice a2 l2 cp2)) (w.heap.size + 1) (w2.setCell ⟨w.heap.size, k, none⟩ (.slice a2 l2 cp2)).heap.size ((us.set k (.slice a2 l2 cp2)).take (k + 1)) (rows.take (k + 1)) := R3.wide (Nat.le_refl _) (by simp [World.setCell])
      clear F F2 hR R2 b2 R3 hus
      go_wp2
      go_roundw
      case rel => exact ⟨k + 1, by omega, by go_num, _, R1, R3', R4, R5⟩
      case measure => simp [intOf]; omega
    · have hk' : k = rows.length := by omega
      have R : OwnSS tInt tInts wr w.heap.size wr.heap.size (.slice (some ⟨w.heap.size, 0, none⟩) rows.length rows.length) rows := by
        rw [hk', List.take_length, List.take_of_length_le (by rw [F.1]; exact Nat.le_refl _)] at hR
        refine ⟨us, ⟨by rw [F.1]; exact F.2, fun g hg => by simp [Value.ownBlock] at hg; omega⟩, hR.wide (by omega) (Nat.le_refl _)⟩
      clear hR F
      go_wp2
      go_ret
      exact ⟨_, rfl, R, hb⟩

theorem toNetwork (n : Int) (v : Value) (rows : List (List Int)) (w : World) (h : IntSS w v rows) (hn : rows.length + sumLen rows ≤ 1048576) :
    Calls Try.prog 6 #[.agg #[.int .i64 n, v]] w (GivesNet w n rows) := by
  have hk : Hid (∀ w', Below w.heap.size w w' → IntSS w' v rows) := fun w' hb => h.keep (Below.keeps hb)
  go_enter Try.func6, Try.ntmps6
  go_wp2_with fail
  refine (toIntSS v rows _ (hk.out _ ((((Below.refl _ _).alloc (Nat.le_refl _) _).alloc (by simp) _).alloc (by simp; omega) _)) hn).mono ?_
  rintro e w3 ⟨v3, rfl, R3, b3⟩
  obtain ⟨a3, l3, c3, hv3⟩ := R3.shape
  subst hv3
  obtain ⟨hc, hf⟩ := bcell b3
  have hz := b3.size
  simp at hc hf hz
  have R : OwnSS tInt tInts (((w3.setCell ⟨w.heap.size + 1 + 1, 1, none⟩ (.slice a3 l3 c3)).setCell ⟨w.heap.size + 1, 0, none⟩ (.int .i64 n)).setCell ⟨w.heap.size + 1, 1, none⟩ (.slice a3 l3 c3)) w.heap.size
      (((w3.setCell ⟨w.heap.size + 1 + 1, 1, none⟩ (.slice a3 l3 c3)).setCell ⟨w.heap.size + 1, 0, none⟩ (.int .i64 n)).setCell ⟨w.heap.size + 1, 1, none⟩ (.slice a3 l3 c3)).heap.size (.slice a3 l3 c3) rows := by
    rw [size_setCell, size_setCell, size_setCell]
    exact (((R3.set (by simp) _).set (by simp) _).set (by simp) _).wide (by simp; omega) (Nat.le_refl _)
  have B : Below w.heap.size w (((w3.setCell ⟨w.heap.size + 1 + 1, 1, none⟩ (.slice a3 l3 c3)).setCell ⟨w.heap.size + 1, 0, none⟩ (.int .i64 n)).setCell ⟨w.heap.size + 1, 1, none⟩ (.slice a3 l3 c3)) :=
    ((((((Below.refl _ _).alloc (Nat.le_refl _) _).alloc (by simp) _).alloc (by simp; omega) _).trans (b3.mono (by simp; omega))).setCell (by simp; omega) _).setCell (by simp) _ |>.setCell (by simp) _
  clear R3 b3 hk
  go_wp2
  exact bodyPost_ret (v := .agg #[.int .i64 n, .slice a3 l3 c3]) (by simp [results, Try.results6, go_sem, hc]) rfl ⟨_, rfl, R, B⟩
set_option maxHeartbeats 800000 in
theorem eqIntSS (v1 v2 : Value) (xs ys : List (List Int)) (w : World) (h1 : IntSS w v1 xs) (h2 : IntSS w v2 ys) :
    Calls Try.prog 24 #[v1, v2] w fun e w' => e = .returned (.bool (tf (xs = ys))) ∧ ∃ n, w' = w.drewN n := by
  obtain ⟨ao, cap, rfl, hcap, hmax, hnil, hcell⟩ := h1
  obtain ⟨ao2, cap2, rfl, hcap2, hmax2, hnil2, hcell2⟩ := h2
  have HC := Lib.hid hcell; clear hcell
  have HC2 := Lib.hid hcell2; clear hcell2
  unfold maxLen at hmax hmax2
  by_cases hl : xs.length = ys.length
  · have HL := Lib.hid hl
    have hne : ((xs.length : Int) != (ys.length : Int)) = false := by simp [hl]
    clear hl
    go_enter Try.func24, Try.ntmps24
    go_wp2
    go_loopw [5] (fun i wr => ∃ k : Nat, k ≤ xs.length ∧ i = .int .i64 k ∧ Hid (xs.take k = ys.take k) ∧ ∃ n, Hid (wr = w.drewN n)) (fun i _ => xs.length - (intOf i).toNat)
    case atStart => exact ⟨0, Nat.zero_le _, rfl, rfl, 0, rfl⟩
    case round =>
      obtain ⟨k, hk, rfl, HT, n, HW⟩ := hrel
      by_cases hlt : k < xs.length
      · have hlt2 : k < ys.length := by have := HL.out; omega
        obtain ⟨b, o, u, rfl, hu, hI⟩ := HC.out k hlt
        obtain ⟨b2, o2, u2, rfl, hu2, hI2⟩ := HC2.out k hlt2
        have c1 : wr.cell? ⟨b, o + k, none⟩ = some u := by rw [HW.out]; exact hu
        have c2 : wr.cell? ⟨b2, o2 + k, none⟩ = some u2 := by rw [HW.out]; exact hu2
        have J1 : Hid (∀ m, Ints (wr.drewN m) u xs[k]) := fun m => hI.keep fun a q ha => by rw [HW.out]; exact ha
        have J2 : Hid (∀ m, Ints (wr.drewN m) u2 ys[k]) := fun m => hI2.keep fun a q ha => by rw [HW.out]; exact ha
        clear hu hu2 hI hI2
        by_cases he : xs[k] = ys[k]
        · have hb : tf (xs[k] = ys[k]) = true := tf_yes he
          have C : Hid (∀ m, Calls Try.prog 34 #[u, u2] (wr.drewN m) fun e w' => e = .returned (.bool true) ∧ ∃ n, w' = (wr.drewN m).drewN n) := fun m => by
            have := eqIntS_q u u2 xs[k] ys[k] _ (J1.out m) (J2.out m); rwa [hb] at this
          have R : Hid (xs.take (k + 1) = ys.take (k + 1)) := by
            show _ = _
            rw [List.take_succ_eq_append_getElem hlt, List.take_succ_eq_append_getElem hlt2, he, HT.out]
          clear he hb
          go_wp2
          go_quiet ((go_at_call 34; exact Calls.quiet_of (C.out _)))
          go_wp2
          go_roundw
          case rel => exact ⟨k + 1, by omega, by go_num, R, _, by rw [HW.out]; exact World.drewN_drewN _ _ _⟩
          case measure => simp [intOf]; omega
        · have hb : tf (xs[k] = ys[k]) = false := tf_no he
          have C : Hid (∀ m, Calls Try.prog 34 #[u, u2] (wr.drewN m) fun e w' => e = .returned (.bool false) ∧ ∃ n, w' = (wr.drewN m).drewN n) := fun m => by
            have := eqIntS_q u u2 xs[k] ys[k] _ (J1.out m) (J2.out m); rwa [hb] at this
          have R := Lib.hid (tf_no (p := xs = ys) (take_no hlt hlt2 he))
          clear he hb
          go_wp2
          go_quiet ((go_at_call 34; exact Calls.quiet_of (C.out _)))
          go_wp2
          go_ret
          exact ⟨ret_bool (by rw [R.out]), _, by rw [HW.out]; exact World.drewN_drewN _ _ _⟩
      · have R := Lib.hid (tf_yes (p := xs = ys) (by have := HT.out; rw [List.take_of_length_le (by omega), List.take_of_length_le (by have := HL.out; omega)] at this; exact this))
        go_wp2
        go_ret
        exact ⟨ret_bool (by rw [R.out]), _, HW.out⟩
  · have hne : ((xs.length : Int) != (ys.length : Int)) = true := by simp; omega
    have R := Lib.hid (tf_no (p := xs = ys) fun e => hl (by rw [e]))
    clear hl
    go_enter Try.func24, Try.ntmps24
    go_wp2
    go_ret
    exact ⟨ret_bool (by rw [R.out]), 0, rfl⟩

theorem eqNetwork (n1 n2 : Int) (v1 v2 : Value) (xs ys : List (List Int)) (w : World) (h1 : IntSS w v1 xs) (h2 : IntSS w v2 ys) :
    Calls Try.prog 8 #[.agg #[.int .i64 n1, v1], .agg #[.int .i64 n2, v2]] w (GivesB w (tf (n1 = n2 ∧ xs = ys))) := by
  have k1 : Hid (∀ w', Below w.heap.size w w' → IntSS w' v1 xs) := fun w' hb => h1.keep (Below.keeps hb)
  have k2 : Hid (∀ w', Below w.heap.size w w' → IntSS w' v2 ys) := fun w' hb => h2.keep (Below.keeps hb)
  obtain ⟨a1, c1, hv1, _⟩ := h1
  obtain ⟨a2, c2, hv2, _⟩ := h2
  subst hv1 hv2
  by_cases he : n1 = n2
  · have R := Lib.hid (tf_congr (p := n1 = n2 ∧ xs = ys) (q := xs = ys) ⟨fun h => h.2, fun h => ⟨he, h⟩⟩)
    have hb : (n1 != n2) = false := by simp [he]
    clear he
    have C : Hid (∀ W, Below w.heap.size w W → Calls Try.prog 24 #[.slice a1 xs.length c1, .slice a2 ys.length c2] W fun e w' => e = .returned (.bool (tf (xs = ys))) ∧ ∃ n, w' = W.drewN n) := fun W hW => eqIntSS _ _ xs ys W (k1.out W hW) (k2.out W hW)
    cases ht : tf (xs = ys)
    all_goals
      rw [ht] at C R
      clear ht
      go_enter Try.func8, Try.ntmps8
      go_wp2_with fail
      refine (C.out _ (((Below.refl _ _).alloc (Nat.le_refl _) _).alloc (by simp) _)).mono ?_
      rintro e w3 ⟨rfl, m, rfl⟩
      go_wp2
      go_ret
      exact ⟨ret_bool R.out.symm, below_drewN (((Below.refl _ _).alloc (Nat.le_refl _) _).alloc (by simp) _) _⟩
  · have R := Lib.hid (tf_no (p := n1 = n2 ∧ xs = ys) fun h => he h.1)
    have hb : (n1 != n2) = true := by simp [he]
    clear he
    go_enter Try.func8, Try.ntmps8
    go_wp2
    go_ret
    exact ⟨ret_bool R.out.symm, ((Below.refl _ _).alloc (Nat.le_refl _) _).alloc (by simp) _⟩

theorem eqNetwork_yes (n : Int) (v1 v2 : Value) (xs : List (List Int)) (w : World) (h1 : IntSS w v1 xs) (h2 : IntSS w v2 xs) :
    Calls Try.prog 8 #[.agg #[.int .i64 n, v1], .agg #[.int .i64 n, v2]] w (GivesB w true) := by
  have := eqNetwork n n v1 v2 xs xs w h1 h2
  rwa [tf_yes ⟨rfl, rfl⟩] at this
end Go.Proofs.Ythcnmaapcniehaa
