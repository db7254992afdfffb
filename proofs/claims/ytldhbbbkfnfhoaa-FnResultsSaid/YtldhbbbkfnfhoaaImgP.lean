/- Sorted sets of masks: what images and l04All collect. No program is named. -/
import Derived.Test.YtldhbbbkfnfhoaaSlice
import Derived.Lib.SlicesCompact
namespace Go.Proofs.Ytldhbbbkfnfhoaa
set_option linter.unusedVariables false

/-- The numbers below M that are among ys, in ascending order. -/
def imgL (M : Nat) (ys : List Int) : List Int := ((List.range M).filter fun (i : Nat) => decide ((i : Int) ∈ ys)).map fun (i : Nat) => (i : Int)
theorem imgL_zero (ys : List Int) : imgL 0 ys = [] := rfl
theorem imgL_yes {M : Nat} {ys : List Int} (h : (M : Int) ∈ ys) : imgL (M + 1) ys = imgL M ys ++ [(M : Int)] := by
  unfold imgL; rw [List.range_succ, List.filter_append]; simp [h]
theorem imgL_no {M : Nat} {ys : List Int} (h : ¬ (M : Int) ∈ ys) : imgL (M + 1) ys = imgL M ys := by
  unfold imgL; rw [List.range_succ, List.filter_append]; simp [h]
theorem imgL_le (M : Nat) (ys : List Int) : (imgL M ys).length ≤ M := by
  unfold imgL; rw [List.length_map]; exact Nat.le_trans (List.length_filter_le _ _) (by simp)
theorem imgL_bd (M : Nat) (ys : List Int) : ∀ x ∈ imgL M ys, 0 ≤ x ∧ x < M := by
  intro x hx
  unfold imgL at hx
  obtain ⟨i, hi, rfl⟩ := List.mem_map.1 hx
  have := (List.mem_filter.1 hi).1
  rw [List.mem_range] at this
  omega
theorem imgL_sorted (M : Nat) (ys : List Int) : (imgL M ys).Pairwise (· < ·) := by
  unfold imgL
  rw [List.pairwise_map, List.pairwise_filter]
  exact List.Pairwise.imp (fun h _ _ => by omega) List.pairwise_lt_range
theorem mem_imgL {M : Nat} {ys : List Int} (h : ∀ y ∈ ys, 0 ≤ y ∧ y < M) (x : Int) : x ∈ imgL M ys ↔ x ∈ ys := by
  unfold imgL
  rw [List.mem_map]
  constructor
  · rintro ⟨i, hi, rfl⟩
    exact of_decide_eq_true (List.mem_filter.1 hi).2
  · intro hx
    have := h x hx
    refine ⟨x.toNat, List.mem_filter.2 ⟨List.mem_range.2 (by omega), ?_⟩, by omega⟩
    have e : ((x.toNat : Nat) : Int) = x := by omega
    rw [e]; exact decide_eq_true hx
theorem imgL_congr {M : Nat} {ys zs : List Int} (h : ∀ x, x ∈ ys ↔ x ∈ zs) : imgL M ys = imgL M zs := by
  unfold imgL; simp only [h]

theorem sorted_ext : ∀ {l1 l2 : List Int}, l1.Pairwise (· < ·) → l2.Pairwise (· < ·) → (∀ x, x ∈ l1 ↔ x ∈ l2) → l1 = l2
  | [], [], _, _, _ => rfl
  | [], b :: l2, _, _, h => absurd ((h b).2 (List.mem_cons_self ..)) (by simp)
  | a :: l1, [], _, _, h => absurd ((h a).1 (List.mem_cons_self ..)) (by simp)
  | a :: l1, b :: l2, h1, h2, h => by
    rw [List.pairwise_cons] at h1 h2
    have e : a = b := by
      rcases List.mem_cons.1 ((h a).1 (List.mem_cons_self ..)) with e | e
      · exact e
      · rcases List.mem_cons.1 ((h b).2 (List.mem_cons_self ..)) with e' | e'
        · exact e'.symm
        · have := h2.1 a e; have := h1.1 b e'; omega
    subst e
    rw [sorted_ext h1.2 h2.2 fun x => ?_]
    constructor
    · intro hx
      rcases List.mem_cons.1 ((h x).1 (List.mem_cons_of_mem _ hx)) with e | e
      · have := h1.1 x hx; omega
      · exact e
    · intro hx
      rcases List.mem_cons.1 ((h x).2 (List.mem_cons_of_mem _ hx)) with e | e
      · have := h2.1 x hx; omega
      · exact e

theorem compact_mem (zs : List Int) (x : Int) : x ∈ Lib.compact zs ↔ x ∈ zs := by
  unfold Lib.compact Lib.compactUpTo
  rw [List.mem_map]
  constructor
  · rintro ⟨j, hj, rfl⟩
    have h := (List.mem_filter.1 hj).1
    rw [List.mem_range] at h
    rw [getElem!_pos _ _ (by simpa using h)]
    simp
  · intro hx
    obtain ⟨i, hi, rfl⟩ := List.getElem_of_mem hx
    induction i with
    | zero => exact ⟨0, List.mem_filter.2 ⟨List.mem_range.2 hi, by simp [Lib.keeps]⟩, by rw [getElem!_pos _ _ (by simpa using hi)]; simp⟩
    | succ i ih =>
      by_cases hk : Lib.keeps zs.toArray (i + 1) = true
      · exact ⟨i + 1, List.mem_filter.2 ⟨List.mem_range.2 hi, hk⟩, by rw [getElem!_pos _ _ (by simpa using hi)]; simp⟩
      · have e : zs[i + 1] = zs[i] := by
          simp only [Lib.keeps, decide_eq_true_eq, not_or] at hk
          have := Classical.not_not.1 hk.2
          rw [getElem!_pos _ _ (by simpa using hi), getElem!_pos _ _ (by simp; omega)] at this
          simpa using this
        obtain ⟨j, h1, h2⟩ := ih (by omega) (List.getElem_mem _)
        exact ⟨j, h1, h2.trans e.symm⟩
theorem compact_sorted (zs : List Int) (h : zs.Pairwise (· ≤ ·)) : (Lib.compact zs).Pairwise (· < ·) := by
  unfold Lib.compact Lib.compactUpTo
  rw [List.pairwise_map, List.pairwise_filter]
  refine List.Pairwise.imp_of_mem (fun {a b} ha hb hab hk1 hk2 => ?_) List.pairwise_lt_range
  rw [List.mem_range] at ha hb
  simp only [Lib.keeps, decide_eq_true_eq] at hk2
  rw [List.pairwise_iff_getElem] at h
  rw [getElem!_pos _ a (by simpa using ha), getElem!_pos _ b (by simpa using hb)]
  rw [getElem!_pos _ b (by simpa using hb), getElem!_pos _ (b - 1) (by simp; omega)] at hk2
  simp only [List.getElem_toArray] at hk2 ⊢
  have h1 : zs[b - 1]'(by omega) ≤ zs[b] := h (b - 1) b (by omega) hb (by omega)
  have h2 : zs[a] ≤ zs[b - 1]'(by omega) := by
    by_cases e : a = b - 1
    · subst e; exact Int.le_refl _
    · exact h a (b - 1) ha (by omega) (by omega)
  rcases hk2 with e | e
  · omega
  · omega
theorem sort_sorted (ys : List Int) : (ys.mergeSort fun x y => decide (x ≤ y)).Pairwise (· ≤ ·) := by
  have := List.pairwise_mergeSort (le := fun (x y : Int) => decide (x ≤ y)) (fun a b c h1 h2 => by simp at *; omega) (fun a b => by simp; omega) ys
  simpa using this
/-- Sorted and without repetition: the masks that are hit. -/
theorem compact_sort {M : Nat} {ys : List Int} (h : ∀ y ∈ ys, 0 ≤ y ∧ y < M) : Lib.compact (ys.mergeSort fun x y => decide (x ≤ y)) = imgL M ys :=
  sorted_ext (compact_sorted _ (sort_sorted ys)) (imgL_sorted M ys) fun x => by rw [compact_mem, List.mem_mergeSort, mem_imgL h]
end Go.Proofs.Ytldhbbbkfnfhoaa
