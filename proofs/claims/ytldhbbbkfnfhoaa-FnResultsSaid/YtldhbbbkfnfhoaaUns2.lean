/- Contracts: CountUnsorted, FirstUnsorted, IsSorting, the program's and the reference's. -/
import Derived.Test.YtldhbbbkfnfhoaaUns
namespace Go.Proofs.Ytldhbbbkfnfhoaa
open Go.RowKit
set_option linter.unusedVariables false

/-- What CountUnsorted returns. -/
noncomputable def cuN (n : Int) (rows : List (List Int)) : Int := bif tf (NetP n rows) then ((badI n.toNat (pairsOf rows) (2 ^ n.toNat)).length : Int) else -1
theorem cuN_no {n : Int} {rows : List (List Int)} (h : ¬ NetP n rows) : cuN n rows = -1 := by unfold cuN; rw [tf_no h]; rfl
theorem cuN_yes {N : Nat} {rows : List (List Int)} (h : NetP N rows) : cuN N rows = ((badI N (pairsOf rows) (2 ^ N)).length : Int) := by unfold cuN; rw [tf_yes h]; rfl
/-- What FirstUnsorted returns. -/
noncomputable def fuN (n : Int) (rows : List (List Int)) : Int := bif tf (NetP n rows) then (badI n.toNat (pairsOf rows) (2 ^ n.toNat)).headD (-1) else -1
theorem fuN_no {n : Int} {rows : List (List Int)} (h : ¬ NetP n rows) : fuN n rows = -1 := by unfold fuN; rw [tf_no h]; rfl
theorem fuN_yes {N : Nat} {rows : List (List Int)} (h : NetP N rows) : fuN N rows = (badI N (pairsOf rows) (2 ^ N)).headD (-1) := by unfold fuN; rw [tf_yes h]; rfl
/-- A network sorts. -/
def SortP (n : Int) (rows : List (List Int)) : Prop := NetP n rows ∧ badI n.toNat (pairsOf rows) (2 ^ n.toNat) = []
theorem badI_nonneg {N : Nat} {ps : List (Nat × Nat)} {k : Nat} {x : Int} (h : x ∈ badI N ps k) : 0 ≤ x ∧ x < k := by
  unfold badI at h
  obtain ⟨i, hi, rfl⟩ := List.mem_map.1 h
  have := List.mem_range.1 (List.mem_filter.1 hi).1
  omega
theorem sort_count (n : Int) (rows : List (List Int)) : SortP n rows ↔ cuN n rows = 0 := by
  rcases Classical.em (NetP n rows) with h | h
  · have h' := h
    obtain ⟨N, rfl, _, _⟩ := h.pairs
    rw [cuN_yes h']
    unfold SortP
    rw [Int.toNat_natCast]
    constructor
    · intro hh; rw [hh.2]; rfl
    · intro hh; exact ⟨h', List.eq_nil_of_length_eq_zero (by omega)⟩
  · rw [cuN_no h]; exact ⟨fun hh => absurd hh.1 h, fun hh => absurd hh (by decide)⟩
theorem sort_first (n : Int) (rows : List (List Int)) (h : NetP n rows) : SortP n rows ↔ fuN n rows = -1 := by
  have h' := h
  obtain ⟨N, rfl, _, _⟩ := h.pairs
  rw [fuN_yes h']
  unfold SortP
  rw [Int.toNat_natCast]
  constructor
  · intro hh; rw [hh.2]; rfl
  · intro hh
    refine ⟨h', ?_⟩
    cases hb : badI N (pairsOf rows) (2 ^ N) with
    | nil => rfl
    | cons x xs =>
      rw [hb] at hh
      have := badI_nonneg (N := N) (ps := pairsOf rows) (k := 2 ^ N) (x := x) (by rw [hb]; exact List.mem_cons_self ..)
      simp at hh; omega

set_option maxHeartbeats 800000 in
theorem implCountUnsorted (n : Int) (v : Value) (rows : List (List Int)) (w : World) (hn : (Lit.int .i64 n).wf = true) (h : IntSS w v rows) (hl : rows.length + sumLen rows ≤ 1048576) :
    Calls Try.prog 43 #[.agg #[.int .i64 n, v]] w (GivesN w (cuN n rows)) := by
  have hk : Hid (∀ W, Below w.heap.size w W → IntSS W v rows) := fun W hb => h.keep (Below.keeps hb)
  obtain ⟨ao, cap, hv, _⟩ := h
  clear hn hl
  rcases Classical.em (NetP n rows) with hN | hN
  · have ht := tf_yes hN
    have hN' := hN
    obtain ⟨N, rfl, hr, hp⟩ := hN.pairs
    have HE := Lib.hid (cuN_yes hN')
    have HP := Lib.hid hp
    have HR := Lib.hid hr
    have hq := pow_le8 N hp.2.1
    have hc := nat_pow_cast N
    have hle := badI_le N (pairsOf rows) (2 ^ N)
    subst hv
    clear hN hN' hp hr
    go_enter Try.func43, Try.ntmps43
    go_wp2_with fail
    refine (implNetworkOk _ _ rows _ (hk.out _ ((Below.refl _ _).alloc (Nat.le_refl _) _))).mono ?_; rintro e w1 ⟨rfl, b1⟩
    obtain ⟨cn, cv, b0, z⟩ := box_cells b1
    go_wp2_with fail
    refine (unsorted N _ (pairsOf rows) _ (by rw [← HR.out]; exact hk.out _ b0) HP.out).mono ?_; rintro e w2 ⟨u, rfl, R2, b2⟩
    have R := b0.trans (b2.mono b0.size)
    obtain ⟨ao2, cap2, hu, hcap2, hmax2, _⟩ := R2.ints
    subst hu
    go_wp2
    go_ret
    exact ⟨ret_int HE.out.symm, R⟩
  · have ht := tf_no hN
    have HE := Lib.hid (cuN_no hN)
    subst hv
    clear hN
    go_enter Try.func43, Try.ntmps43
    go_wp2_with fail
    refine (implNetworkOk _ _ rows _ (hk.out _ ((Below.refl _ _).alloc (Nat.le_refl _) _))).mono ?_; rintro e w1 ⟨rfl, b1⟩
    obtain ⟨cn, cv, b0, z⟩ := box_cells b1
    go_wp2
    go_ret
    exact ⟨ret_int HE.out.symm, b0⟩




theorem implIsSorting (n : Int) (v : Value) (rows : List (List Int)) (w : World) (hn : (Lit.int .i64 n).wf = true) (h : IntSS w v rows) (hl : rows.length + sumLen rows ≤ 1048576) :
    Calls Try.prog 21 #[.agg #[.int .i64 n, v]] w (GivesB w (tf (SortP n rows))) := by
  have hk : Hid (∀ W, Below w.heap.size w W → IntSS W v rows) := fun W hb => h.keep (Below.keeps hb)
  obtain ⟨ao, cap, hv, _⟩ := h
  have hn := Lib.hid hn
  have HE : Hid (tf (SortP n rows) = decide (cuN n rows = 0)) := (tf_congr (sort_count n rows)).trans tf_dec
  subst hv
  go_enter Try.func21, Try.ntmps21
  go_wp2_with fail
  refine (implCountUnsorted _ _ rows _ hn.out (hk.out _ ((Below.refl _ _).alloc (Nat.le_refl _) _)) hl).mono ?_; rintro e w1 ⟨rfl, b1⟩
  obtain ⟨cn, cv, b0, z⟩ := box_cells b1
  go_wp2
  go_ret
  exact ⟨ret_bool (by rw [HE.out]; rfl), b0⟩
end Go.Proofs.Ytldhbbbkfnfhoaa
