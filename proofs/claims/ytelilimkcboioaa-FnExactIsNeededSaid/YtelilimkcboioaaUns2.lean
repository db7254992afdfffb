/- Contracts: CountUnsorted, FirstUnsorted, IsSorting, the program's and the reference's. -/
import Derived.Test.YtelilimkcboioaaUns
namespace Go.Proofs.Ytelilimkcboioaa
open Go.RowKit
set_option linter.unusedVariables false

/-- What CountUnsorted returns. -/
noncomputable def cuN (n : Int) (rows : List (List Int)) : Int := bif tf (NetP n rows) then ((badI n.toNat (pairsOf rows) (2 ^ n.toNat)).length : Int) else -1
theorem cuN_no {n : Int} {rows : List (List Int)} (h : ¬ NetP n rows) : cuN n rows = -1 := by unfold cuN; rw [tf_no h]; rfl
theorem cuN_yes {N : Nat} {rows : List (List Int)} (h : NetP N rows) : cuN N rows = ((badI N (pairsOf rows) (2 ^ N)).length : Int) := by unfold cuN; rw [tf_yes h]; rfl
/-- What FirstUnsorted returns. -/
noncomputable def fuN (n : Int) (rows : List (List Int)) : Int := bif tf (NetP n rows) then (badI n.toNat (pairsOf rows) (2 ^ n.toNat)).headD (-1) else -1
theorem fuN_no {n : Int} {rows : List (List Int)} (h : ¬ NetP n rows) : fuN n rows = -1 := by unfold fuN; rw [tf_no h]; rfl
theorem fuN_yes {N : Nat} {rows : List (List Int)} (h : NetP N rows) : fuN N rows = (badI N (pairsOf rows) (2 ^ N)).headD (-1) := by unfold fuN; rw [tf_yes h]; rfl
/-- A network sorts. -/
def SortP (n : Int) (rows : List (List Int)) : Prop := NetP n rows ∧ badI n.toNat (pairsOf rows) (2 ^ n.toNat) = []
theorem badI_nonneg {N : Nat} {ps : List (Nat × Nat)} {k : Nat} {x : Int} (h : x ∈ badI N ps k) : 0 ≤ x ∧ x < k := by
  unfold badI at h
  obtain ⟨i, hi, rfl⟩ := List.mem_map.1 h
  have := List.mem_range.1 (List.mem_filter.1 hi).1
  omega
theorem sort_count (n : Int) (rows : List (List Int)) : SortP n rows ↔ cuN n rows = 0 := by
  rcases Classical.em (NetP n rows) with h | h
  · have h' := h
    obtain ⟨N, rfl, _, _⟩ := h.pairs
    rw [cuN_yes h']
    unfold SortP
    rw [Int.toNat_natCast]
    constructor
    · intro hh; rw [hh.2]; rfl
    · intro hh; exact ⟨h', List.eq_nil_of_length_eq_zero (by omega)⟩
  · rw [cuN_no h]; exact ⟨fun hh => absurd hh.1 h, fun hh => absurd hh (by decide)⟩
theorem sort_first (n : Int) (rows : List (List Int)) (h : NetP n rows) : SortP n rows ↔ fuN n rows = -1 := by
  have h' := h
  obtain ⟨N, rfl, _, _⟩ := h.pairs
  rw [fuN_yes h']
  unfold SortP
  rw [Int.toNat_natCast]
  constructor
  · intro hh; rw [hh.2]; rfl
  · intro hh
    refine ⟨h', ?_⟩
    cases hb : badI N (pairsOf rows) (2 ^ N) with
    | nil => rfl
    | cons x xs =>
      rw [hb] at hh
      have := badI_nonneg (N := N) (ps := pairsOf rows) (k := 2 ^ N) (x := x) (by rw [hb]; exact List.mem_cons_self ..)
      simp at hh; omega

set_option maxHeartbeats 800000 in
theorem implCountUnsorted (n : Int) (v : Value) (rows : List (List Int)) (w : World) (hn : (Lit.int .i64 n).wf = true) (h : IntSS w v rows) (hl : rows.length + sumLen rows ≤ 1048576) :
    Calls Try.prog 72 #[.agg #[.int .i64 n, v]] w (GivesN w (cuN n rows)) := by
  have hk : Hid (∀ W, Below w.heap.size w W → IntSS W v rows) := fun W hb => h.keep (Below.keeps hb)
  obtain ⟨ao, cap, hv, _⟩ := h
  clear hn hl
  rcases Classical.em (NetP n rows) with hN | hN
  · have ht := tf_yes hN
    have hN' := hN
    obtain ⟨N, rfl, hr, hp⟩ := hN.pairs
    have HE := Lib.hid (cuN_yes hN')
    have HP := Lib.hid hp
    have HR := Lib.hid hr
    have hq := pow_le8 N hp.2.1
    have hc := nat_pow_cast N
    have hle := badI_le N (pairsOf rows) (2 ^ N)
    subst hv
    clear hN hN' hp hr
    go_enter Try.func72, Try.ntmps72
    go_wp2_with fail
    refine (implNetworkOk _ _ rows _ (hk.out _ ((Below.refl _ _).alloc (Nat.le_refl _) _))).mono ?_; rintro e w1 ⟨rfl, b1⟩
    obtain ⟨cn, cv, b0, z⟩ := box_cells b1
    go_wp2_with fail
    refine (unsorted N _ (pairsOf rows) _ (by rw [← HR.out]; exact hk.out _ b0) HP.out).mono ?_; rintro e w2 ⟨u, rfl, R2, b2⟩
    have R := b0.trans (b2.mono b0.size)
    obtain ⟨ao2, cap2, hu, hcap2, hmax2, _⟩ := R2.ints
    subst hu
    go_wp2
    go_ret
    exact ⟨ret_int HE.out.symm, R⟩
  · have ht := tf_no hN
    have HE := Lib.hid (cuN_no hN)
    subst hv
    clear hN
    go_enter Try.func72, Try.ntmps72
    go_wp2_with fail
    refine (implNetworkOk _ _ rows _ (hk.out _ ((Below.refl _ _).alloc (Nat.le_refl _) _))).mono ?_; rintro e w1 ⟨rfl, b1⟩
    obtain ⟨cn, cv, b0, z⟩ := box_cells b1
    go_wp2
    go_ret
    exact ⟨ret_int HE.out.symm, b0⟩



set_option maxHeartbeats 800000 in
theorem specFirstUnsorted (n : Int) (v : Value) (rows : List (List Int)) (w : World) (hn : (Lit.int .i64 n).wf = true) (h : IntSS w v rows) (hl : rows.length + sumLen rows ≤ 1048576) :
    Calls Try.prog 71 #[.agg #[.int .i64 n, v]] w (GivesN w (fuN n rows)) := by
  have hk : Hid (∀ W, Below w.heap.size w W → IntSS W v rows) := fun W hb => h.keep (Below.keeps hb)
  obtain ⟨ao, cap, hv, _⟩ := h
  clear hn hl
  rcases Classical.em (NetP n rows) with hN | hN
  · have ht := tf_yes hN
    have hN' := hN
    obtain ⟨N, rfl, hr, hp⟩ := hN.pairs
    have HE := Lib.hid (fuN_yes hN')
    have hN8 := hp.2.1
    have hw := wrap_pow N hN8
    have hq := pow_le8 N hN8
    have hc := nat_pow_cast N
    have HP := Lib.hid hp
    have HR := Lib.hid hr
    have HO : Hid (∀ m : Nat, m < 2 ^ N → onesN m ≤ N) := fun m hm => onesN_wires N m hN8 (by rw [← hc]; exact_mod_cast hm)
    obtain ⟨M, HM⟩ : ∃ M : Nat, Hid (2 ^ N = M) := ⟨_, rfl⟩
    have hM : (2 : Int) ^ N = (M : Int) := by rw [← hc, HM.out]
    rw [HM.out] at HO HE
    rw [hM] at hw hq
    subst hv
    clear hN hN' hp hr hc
    go_enter Try.func71, Try.ntmps71
    go_wp2_with fail
    refine (specNetworkOk _ _ rows _ (hk.out _ ((Below.refl _ _).alloc (Nat.le_refl _) _))).mono ?_; rintro e w1 ⟨rfl, b1⟩
    obtain ⟨cn, cv, b0, z⟩ := box_cells b1
    go_wp2
    go_loopw [3] (fun i wr => ∃ k : Nat, k ≤ M ∧ i = .int .i64 k ∧ Hid (badI N (pairsOf rows) k = []) ∧ Below w.heap.size w wr ∧ w.heap.size < wr.heap.size ∧ wr.cell? ⟨w.heap.size, 0, none⟩ = some (.int .i64 N) ∧ wr.cell? ⟨w.heap.size, 1, none⟩ = some (.slice ao rows.length cap)) (fun i _ => M - (intOf i).toNat)
    case atStart => exact ⟨0, Nat.zero_le _, rfl, rfl, b0, z, cn, cv⟩
    case round =>
      obtain ⟨k, hkM, rfl, HC, hb, hz, cn, cv⟩ := hrel
      by_cases hlt : k < M
      · have hk256 : k < 256 := by omega
        have ho : onesN (bitsN (pairsOf rows) k) ≤ N := by rw [onesN_bitsN HP.out k hk256]; exact HO.out k hlt
        have HK : Hid (∀ x, Calls Try.prog 74 #[.slice ao rows.length cap, .int .i64 k] (up wr x) fun e w' => e = .returned (.int .i64 (bitsN (pairsOf rows) k)) ∧ ∃ y, w' = up wr y) :=
          fun x => up_calls (l03Apply _ N (pairsOf rows) k _ (by rw [← HR.out]; exact hk.out _ (hb.trans ((up_below wr x).mono hb.size))) HP.out hk256)
        have HK2 : Hid (∀ x, Calls Try.prog 73 #[.int .i64 N, .int .i64 (bitsN (pairsOf rows) k : Nat)] (up wr x) fun e w' => e = .returned (.bool (tf ((bitsN (pairsOf rows) k : Int) = sortedN N (onesN (bitsN (pairsOf rows) k))))) ∧ ∃ y, w' = up wr y) :=
          fun x => up_calls ((l03Sorted N _ _ hN8 (bitsN_lt' HP.out k hk256) ho).mono fun _ _ ⟨a, b⟩ => ⟨a, by subst b; exact Below.refl _ _⟩)
        cases hbad : badB N (pairsOf rows) k with
        | true =>
          have HB := Lib.hid (badI_yes hbad)
          unfold badB at hbad
          have htt := tf_no (p := ((bitsN (pairsOf rows) k : Int) = sortedN N (onesN (bitsN (pairsOf rows) k)))) (by rw [onesN_bitsN HP.out k hk256]; simpa using hbad)
          go_wp2
          refine wp_region_up_lit (by kernel_rfl) (by kernel_rfl) ?_
          repeat (go_big_quiet_step ((first | (go_at_call 74; exact HK.out _) | (go_at_call 73; exact HK2.out _))))
          refine up_end ?_
          intro wq hbq
          have hb2 := hb.trans (hbq.mono hb.size)
          have cn2 := Below.keeps hbq _ _ cn
          have cv2 := Below.keeps hbq _ _ cv
          have hz2 : w.heap.size < wq.heap.size := Nat.lt_of_lt_of_le hz hbq.size
          clear hbq
          have HF : Hid (fuN N rows = k) := by
            show _ = _
            obtain ⟨t, ht⟩ := badI_prefix N (pairsOf rows) (k + 1) (M - (k + 1))
            rw [show k + 1 + (M - (k + 1)) = M by omega, HB.out, HC.out] at ht
            rw [HE.out, ht]; rfl
          go_wp2
          go_ret
          exact ⟨ret_int HF.out.symm, hb2⟩
        | false =>
          have HB := Lib.hid (badI_no hbad)
          unfold badB at hbad
          have htt := tf_yes (p := ((bitsN (pairsOf rows) k : Int) = sortedN N (onesN (bitsN (pairsOf rows) k)))) (by rw [onesN_bitsN HP.out k hk256]; simpa using hbad)
          go_wp2
          refine wp_region_up_lit (by kernel_rfl) (by kernel_rfl) ?_
          repeat (go_big_quiet_step ((first | (go_at_call 74; exact HK.out _) | (go_at_call 73; exact HK2.out _))))
          refine up_end ?_
          intro wq hbq
          have hb2 := hb.trans (hbq.mono hb.size)
          have cn2 := Below.keeps hbq _ _ cn
          have cv2 := Below.keeps hbq _ _ cv
          have hz2 : w.heap.size < wq.heap.size := Nat.lt_of_lt_of_le hz hbq.size
          clear hbq
          have HC2 : Hid (badI N (pairsOf rows) (k + 1) = []) := by show _ = _; rw [HB.out, HC.out]
          go_wp2
          go_roundw
          case rel => exact ⟨k + 1, by omega, by go_num, HC2, hb2, hz2, cn2, cv2⟩
          case measure => simp [intOf]; omega
      · have HF : Hid (-1 = fuN N rows) := by show _ = _; rw [HE.out, show M = k by omega, HC.out]; rfl
        go_wp2
        go_ret
        exact ⟨ret_int HF.out, hb⟩
  · have ht := tf_no hN
    have HE := Lib.hid (fuN_no hN)
    subst hv
    clear hN
    go_enter Try.func71, Try.ntmps71
    go_wp2_with fail
    refine (specNetworkOk _ _ rows _ (hk.out _ ((Below.refl _ _).alloc (Nat.le_refl _) _))).mono ?_; rintro e w1 ⟨rfl, b1⟩
    obtain ⟨cn, cv, b0, z⟩ := box_cells b1
    go_wp2
    go_ret
    exact ⟨ret_int HE.out.symm, b0⟩

theorem implIsSorting (n : Int) (v : Value) (rows : List (List Int)) (w : World) (hn : (Lit.int .i64 n).wf = true) (h : IntSS w v rows) (hl : rows.length + sumLen rows ≤ 1048576) :
    Calls Try.prog 54 #[.agg #[.int .i64 n, v]] w (GivesB w (tf (SortP n rows))) := by
  have hk : Hid (∀ W, Below w.heap.size w W → IntSS W v rows) := fun W hb => h.keep (Below.keeps hb)
  obtain ⟨ao, cap, hv, _⟩ := h
  have hn := Lib.hid hn
  have HE : Hid (tf (SortP n rows) = decide (cuN n rows = 0)) := (tf_congr (sort_count n rows)).trans tf_dec
  subst hv
  go_enter Try.func54, Try.ntmps54
  go_wp2_with fail
  refine (implCountUnsorted _ _ rows _ hn.out (hk.out _ ((Below.refl _ _).alloc (Nat.le_refl _) _)) hl).mono ?_; rintro e w1 ⟨rfl, b1⟩
  obtain ⟨cn, cv, b0, z⟩ := box_cells b1
  go_wp2
  go_ret
  exact ⟨ret_bool (by rw [HE.out]; rfl), b0⟩
theorem specIsSorting (n : Int) (v : Value) (rows : List (List Int)) (w : World) (hn : (Lit.int .i64 n).wf = true) (h : IntSS w v rows) (hl : rows.length + sumLen rows ≤ 1048576) :
    Calls Try.prog 53 #[.agg #[.int .i64 n, v]] w (GivesB w (tf (SortP n rows))) := by
  have hk : Hid (∀ W, Below w.heap.size w W → IntSS W v rows) := fun W hb => h.keep (Below.keeps hb)
  obtain ⟨ao, cap, hv, _⟩ := h
  have hn := Lib.hid hn
  rcases Classical.em (NetP n rows) with hN | hN
  · have ht := tf_yes hN
    have HE : Hid (tf (SortP n rows) = decide (fuN n rows = -1)) := (tf_congr (sort_first n rows hN)).trans tf_dec
    subst hv
    clear hN
    go_enter Try.func53, Try.ntmps53
    go_wp2_with fail
    refine (specNetworkOk _ _ rows _ (hk.out _ ((Below.refl _ _).alloc (Nat.le_refl _) _))).mono ?_; rintro e w1 ⟨rfl, b1⟩
    obtain ⟨cn, cv, b0, z⟩ := box_cells b1
    go_wp2_with fail
    refine (specFirstUnsorted _ _ rows _ hn.out (hk.out _ b0) hl).mono ?_; rintro e w2 ⟨rfl, b2⟩
    have R := b0.trans (b2.mono b0.size)
    go_wp2
    go_ret
    exact ⟨ret_bool (by rw [HE.out]; rfl), R⟩
  · have ht := tf_no hN
    have HE : Hid (tf (SortP n rows) = false) := tf_no fun hh => hN hh.1
    subst hv
    clear hN
    go_enter Try.func53, Try.ntmps53
    go_wp2_with fail
    refine (specNetworkOk _ _ rows _ (hk.out _ ((Below.refl _ _).alloc (Nat.le_refl _) _))).mono ?_; rintro e w1 ⟨rfl, b1⟩
    obtain ⟨cn, cv, b0, z⟩ := box_cells b1
    go_wp2
    go_ret
    exact ⟨ret_bool HE.out.symm, b0⟩
end Go.Proofs.Ytelilimkcboioaa
