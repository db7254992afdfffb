/- Contracts: the masks that a network does not sort: unsorted; CountUnsorted, FirstUnsorted, IsSorting, the program's and the reference's. -/
import Derived.Test.YtldhbbbkfnfhoaaApply
import Derived.Test.YtldhbbbkfnfhoaaUp
import Derived.Test.YtldhbbbkfnfhoaaAllMasks
namespace Go.Proofs.Ytldhbbbkfnfhoaa
open Go.RowKit
set_option linter.unusedVariables false

/-- Whether a mask's result is not sorted. -/
def badB (N : Nat) (ps : List (Nat × Nat)) (m : Nat) : Bool := (bitsN ps m : Int) != sortedN N (onesN m)
/-- The masks below k whose results are not sorted. -/
def badI (N : Nat) (ps : List (Nat × Nat)) (k : Nat) : List Int := ((List.range k).filter (badB N ps)).map fun (i : Nat) => (i : Int)
theorem badI_zero (N : Nat) (ps : List (Nat × Nat)) : badI N ps 0 = [] := rfl
theorem badI_yes {N : Nat} {ps : List (Nat × Nat)} {k : Nat} (h : badB N ps k = true) : badI N ps (k + 1) = badI N ps k ++ [(k : Int)] := by
  unfold badI; rw [List.range_succ, List.filter_append]; simp [h]
theorem badI_no {N : Nat} {ps : List (Nat × Nat)} {k : Nat} (h : badB N ps k = false) : badI N ps (k + 1) = badI N ps k := by
  unfold badI; rw [List.range_succ, List.filter_append]; simp [h]
theorem badI_le (N : Nat) (ps : List (Nat × Nat)) (k : Nat) : (badI N ps k).length ≤ k := by
  unfold badI; rw [List.length_map]; exact Nat.le_trans (List.length_filter_le _ _) (by simp)
theorem badI_prefix (N : Nat) (ps : List (Nat × Nat)) (k d : Nat) : ∃ t, badI N ps (k + d) = badI N ps k ++ t := by
  induction d with
  | zero => exact ⟨[], by simp⟩
  | succ d ih =>
    obtain ⟨t, ht⟩ := ih
    cases hb : badB N ps (k + d) with
    | true => exact ⟨t ++ [((k + d : Nat) : Int)], by rw [show k + (d + 1) = (k + d) + 1 from rfl, badI_yes hb, ht, List.append_assoc]⟩
    | false => exact ⟨t, by rw [show k + (d + 1) = (k + d) + 1 from rfl, badI_no hb, ht]⟩

theorem onesN_step (m i k : Nat) (hm : m < 256) (hi : i < 8) (hk : k < 8) : onesN (stepN m i k) = onesN m := by
  have H : ∀ m : Fin 256, ∀ i k : Fin 8, onesN (stepN m.val i.val k.val) = onesN m.val := by decide +kernel
  exact H ⟨m, hm⟩ ⟨i, hi⟩ ⟨k, hk⟩
theorem onesN_bits {n : Nat} {ps : List (Nat × Nat)} (h : PsOk n ps) (m : Nat) (hm : m < 256) (k : Nat) : k ≤ ps.length → onesN (bitsN (ps.take k) m) = onesN m := by
  induction k with
  | zero => intro _; rfl
  | succ k ih =>
    intro hk
    rw [bitsN_snoc ps m k hk]
    have := h.2.2.2 k hk
    have := h.2.1
    rw [onesN_step _ _ _ (bitsN_lt h m hm k (by omega)) (by omega) (by omega), ih (by omega)]
theorem onesN_bitsN {n : Nat} {ps : List (Nat × Nat)} (h : PsOk n ps) (m : Nat) (hm : m < 256) : onesN (bitsN ps m) = onesN m := by
  have := onesN_bits h m hm ps.length (Nat.le_refl _); rwa [List.take_length] at this
theorem bitsN_lt' {n : Nat} {ps : List (Nat × Nat)} (h : PsOk n ps) (m : Nat) (hm : m < 256) : bitsN ps m < 256 := by
  have := bitsN_lt h m hm ps.length (Nat.le_refl _); rwa [List.take_length] at this

set_option maxHeartbeats 400000 in
theorem unsorted (N : Nat) (v : Value) (ps : List (Nat × Nat)) (w : World) (h : IntSS w v (rowsOf ps)) (hp : PsOk N ps) :
    Calls Try.prog 59 #[.agg #[.int .i64 N, v]] w (GivesI w (badI N ps (2 ^ N))) := by
  have hk : Hid (∀ W, Below w.heap.size w W → IntSS W v (rowsOf ps)) := fun W hb => h.keep (Below.keeps hb)
  obtain ⟨ao, cap, hv, _⟩ := h
  rw [rowsOf_length] at hv
  have hN := hp.2.1
  have hw := wrap_pow N hN
  have hq := pow_le8 N hN
  have hc := nat_pow_cast N
  have HP := Lib.hid hp; clear hp
  have HO : Hid (∀ m : Nat, m < 2 ^ N → onesN m ≤ N) := fun m hm => onesN_wires N m hN (by rw [← hc]; exact_mod_cast hm)
  obtain ⟨M, HM⟩ : ∃ M : Nat, Hid (2 ^ N = M) := ⟨_, rfl⟩
  have hM : (2 : Int) ^ N = (M : Int) := by rw [← hc, HM.out]
  rw [HM.out] at HO ⊢
  rw [hM] at hw hq
  subst hv
  clear hc
  go_enter Try.func59, Try.ntmps59
  go_wp2
  go_loopw [3, 9] (fun v i wr => ∃ k : Nat, k ≤ M ∧ i = .int .i64 k ∧ OwnI tInt wr (w.heap.size + 1) wr.heap.size v (badI N ps k) ∧ Below w.heap.size w wr ∧ w.heap.size + 1 ≤ wr.heap.size ∧ wr.cell? ⟨w.heap.size, 0, none⟩ = some (.int .i64 N) ∧ wr.cell? ⟨w.heap.size, 1, none⟩ = some (.slice ao ps.length cap)) (fun _ i _ => M - (intOf i).toNat)
  case atStart => exact ⟨0, Nat.zero_le _, rfl, (by have := OwnI.lit0 3 (w.alloc (.cells #[.int .i64 (N : Int), .slice ao ps.length cap] 25)) (w.heap.size + 1) (by simp); simpa [badI_zero] using this), ((Below.refl _ _).alloc (Nat.le_refl _) _).alloc (by simp) _, by simp, by simp [go_sem], by simp [go_sem]⟩
  case round =>
    obtain ⟨k, hkM, rfl, hown, hb, hz, cn, cv⟩ := hrel
    by_cases hlt : k < M
    · have hk256 : k < 256 := by omega
      have ho := HO.out k hlt
      have HK : Hid (∀ x, Calls Try.prog 28 #[.agg #[.int .i64 N, .slice ao ps.length cap], .int .i64 k] (up wr x) fun e w' => e = .returned (.int .i64 (bitsN ps k)) ∧ ∃ y, w' = up wr y) :=
        fun x => up_calls (bits N _ N ps k _ (hk.out _ (hb.trans ((up_below wr x).mono hb.size))) HP.out hk256)
      have HK2 : Hid (∀ x, Calls Try.prog 34 #[.int .i64 N, .int .i64 k] (up wr x) fun e w' => e = .returned (.int .i64 (sortedN N (onesN k))) ∧ ∃ y, w' = up wr y) :=
        fun x => up_calls ((sorted N k _ hN hk256 ho).mono fun _ _ ⟨a, b⟩ => ⟨a, by subst b; exact Below.refl _ _⟩)
      cases hbad : badB N ps k with
      | true =>
        have HB := Lib.hid (badI_yes hbad)
        have hlen := badI_le N ps k
        unfold badB at hbad
        have hbf : ¬ ((bitsN ps k : Int) = sortedN N (onesN k)) := by simpa using hbad
        have hzz : w.heap.size < wr.heap.size := by omega
        go_wp2
        refine wp_region_up_lit (by kernel_rfl) (by kernel_rfl) ?_
        repeat (go_big_quiet_step ((first | (go_at_call 28; exact HK.out _) | (go_at_call 34; exact HK2.out _))))
        refine up_end ?_
        intro wq hbq
        have hown := (hown.below hbq (Nat.le_refl _)).wide (Nat.le_refl _) hbq.size
        have hb := hb.trans (hbq.mono hb.size)
        have cn := Below.keeps hbq _ _ cn
        have cv := Below.keeps hbq _ _ cv
        have hz2 : w.heap.size + 1 ≤ wq.heap.size := Nat.le_trans hz hbq.size
        clear hbq
        go_wp2_with (at_builtin; refine wpList_append1 _ rfl _ _ 27 rfl 3 (.int .i64 0) 8 Try.underlying27 infoInt (by decide) rfl (w.heap.size + 1) wq.heap.size _ _ rfl (hown.1.alloc _) ⟨wq.heap.size, 0, none⟩ 1 (.int .i64 k) rfl (cell_alloc0 _ _ _) rfl ?_ ?_ ?_)
        · simp; omega
        · simp; omega
        · intro v' w1 hown' hg
          have R1 := OwnI.snoc hown' hown.2 (show In64 (k : Int) from WalkArith.wf_i64 (by omega))
          rw [← HB.out] at R1
          have R2 := below_app ((Below.refl (w.heap.size + 1) wq).alloc hz2 _) (hown.1.alloc _) hg (Nat.le_refl _) (by simp; omega)
          have hb := hb.trans (R2.mono (Nat.le_succ _))
          have cn := (R2.cell (p := ⟨w.heap.size, 0, none⟩) (Nat.lt_succ_self _)).trans cn
          have cv := (R2.cell (p := ⟨w.heap.size, 1, none⟩) (Nat.lt_succ_self _)).trans cv
          have hz3 : w.heap.size + 1 ≤ w1.heap.size := Nat.le_trans hz2 R2.size
          clear hown hown' hg R2
          go_wp2
          go_roundw
          case rel => exact ⟨k + 1, by omega, by go_num, R1, hb, hz3, cn, cv⟩
          case measure => simp [intOf]; omega
      | false =>
        have HB := Lib.hid (badI_no hbad)
        unfold badB at hbad
        have hbf : ((bitsN ps k : Int) = sortedN N (onesN k)) := by simpa using hbad
        have hzz : w.heap.size < wr.heap.size := by omega
        go_wp2
        refine wp_region_up_lit (by kernel_rfl) (by kernel_rfl) ?_
        repeat (go_big_quiet_step ((first | (go_at_call 28; exact HK.out _) | (go_at_call 34; exact HK2.out _))))
        refine up_end ?_
        intro wq hbq
        have hown := (hown.below hbq (Nat.le_refl _)).wide (Nat.le_refl _) hbq.size
        rw [← HB.out] at hown
        have hb := hb.trans (hbq.mono hb.size)
        have cn := Below.keeps hbq _ _ cn
        have cv := Below.keeps hbq _ _ cv
        have hz2 : w.heap.size + 1 ≤ wq.heap.size := Nat.le_trans hz hbq.size
        clear hbq
        go_wp2
        go_roundw
        case rel => exact ⟨k + 1, by omega, by go_num, hown, hb, hz2, cn, cv⟩
        case measure => simp [intOf]; omega
    · obtain rfl : k = M := by omega
      go_wp2
      go_ret
      exact ⟨_, rfl, hown.wide (by omega) (Nat.le_refl _), hb⟩
end Go.Proofs.Ytldhbbbkfnfhoaa
