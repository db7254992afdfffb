/- The plain law of the reference's sorting by insertion. No program is named. -/
import Derived.Test.YtldhbbbkfnfhoaaSlice
namespace Go.Proofs.Ytldhbbbkfnfhoaa
open Go.RowKit
set_option linter.unusedVariables false

/-- The place for x in a list, looked for from the end. -/
def dnK (l : List Int) (x : Int) : Nat → Nat
  | 0 => 0
  | k + 1 => if x < l.getD k 0 then dnK l x k else k + 1
theorem dnK_le (l : List Int) (x : Int) : ∀ k, dnK l x k ≤ k := by
  intro k
  induction k with
  | zero => exact Nat.le_refl _
  | succ k ih => unfold dnK; split <;> omega
theorem dnK_stop (l : List Int) (x : Int) : ∀ k, 0 < dnK l x k → l.getD (dnK l x k - 1) 0 ≤ x := by
  intro k
  induction k with
  | zero => intro h; cases h
  | succ k ih =>
    unfold dnK
    split
    · exact ih
    · intro _; rw [Nat.add_sub_cancel]; omega
theorem dnK_above (l : List Int) (x : Int) : ∀ k j, dnK l x k ≤ j → j < k → x < l.getD j 0 := by
  intro k
  induction k with
  | zero => intro j _ h; cases h
  | succ k ih =>
    unfold dnK
    split
    · intro j h1 h2
      rcases Nat.lt_or_ge j k with h3 | h3
      · exact ih j h1 h3
      · obtain rfl : j = k := by omega
        assumption
    · intro j h1 h2; omega
def insL (l : List Int) (x : Int) : List Int := l.take (dnK l x l.length) ++ x :: l.drop (dnK l x l.length)
def srtL (xs : List Int) : List Int := xs.foldl insL []
theorem insL_length (l : List Int) (x : Int) : (insL l x).length = l.length + 1 := by
  unfold insL
  have := dnK_le l x l.length
  simp; omega
theorem insL_perm (l : List Int) (x : Int) : (insL l x).Perm (x :: l) := by
  unfold insL
  refine List.perm_middle.trans ?_
  rw [List.take_append_drop]
theorem getD_pair {l : List Int} (h : l.Pairwise (· ≤ ·)) {i j : Nat} (hij : i ≤ j) (hj : j < l.length) : l.getD i 0 ≤ l.getD j 0 := by
  rw [List.getD_eq_getElem?_getD, List.getD_eq_getElem?_getD, List.getElem?_eq_getElem hj, List.getElem?_eq_getElem (by omega)]
  rcases Nat.lt_or_ge i j with h1 | h1
  · exact List.pairwise_iff_getElem.1 h i j (by omega) hj h1
  · obtain rfl : i = j := by omega
    exact Int.le_refl _
theorem insL_sorted {l : List Int} (h : l.Pairwise (· ≤ ·)) (x : Int) : (insL l x).Pairwise (· ≤ ·) := by
  have hk := dnK_le l x l.length
  have h1 := dnK_stop l x l.length
  have h2 := dnK_above l x l.length
  unfold insL
  generalize dnK l x l.length = k at *
  have hx1 : ∀ a ∈ l.take k, a ≤ x := by
    intro a ha
    obtain ⟨i, hi, rfl⟩ := List.getElem_of_mem ha
    have hi2 : i < k ∧ i < l.length := by rw [List.length_take] at hi; omega
    have h3 := getD_pair h (show i ≤ k - 1 by omega) (show k - 1 < l.length by omega)
    have h4 := h1 (by omega)
    have e : (l.take k)[i] = l.getD i 0 := by rw [List.getElem_take, List.getD_eq_getElem?_getD, List.getElem?_eq_getElem hi2.2]; rfl
    omega
  have hx2 : ∀ b ∈ l.drop k, x ≤ b := by
    intro b hb
    obtain ⟨i, hi, rfl⟩ := List.getElem_of_mem hb
    have hi2 : k + i < l.length := by rw [List.length_drop] at hi; omega
    have h4 := h2 (k + i) (by omega) hi2
    have e : (l.drop k)[i] = l.getD (k + i) 0 := by rw [List.getElem_drop, List.getD_eq_getElem?_getD, List.getElem?_eq_getElem hi2]; rfl
    omega
  rw [List.pairwise_append]
  refine ⟨h.sublist (List.take_sublist k l), ?_, ?_⟩
  · rw [List.pairwise_cons]; exact ⟨hx2, h.sublist (List.drop_sublist k l)⟩
  · intro a ha b hb
    rcases List.mem_cons.1 hb with rfl | hb
    · exact hx1 a ha
    · exact Int.le_trans (hx1 a ha) (hx2 b hb)
theorem srt_fold : ∀ (xs l : List Int), l.Pairwise (· ≤ ·) → (xs.foldl insL l).Pairwise (· ≤ ·) ∧ (xs.foldl insL l).Perm (xs ++ l) := by
  intro xs
  induction xs with
  | nil => intro l h; exact ⟨h, List.Perm.refl _⟩
  | cons x xs ih =>
    intro l h
    obtain ⟨h1, h2⟩ := ih (insL l x) (insL_sorted h x)
    exact ⟨h1, h2.trans (((insL_perm l x).append_left xs).trans List.perm_middle)⟩
theorem srt_sorted (xs : List Int) : (srtL xs).Pairwise (· ≤ ·) := (srt_fold xs [] List.Pairwise.nil).1
theorem srt_perm (xs : List Int) : (srtL xs).Perm xs := by
  have := (srt_fold xs [] List.Pairwise.nil).2
  rwa [List.append_nil] at this
theorem srt_length (xs : List Int) : (srtL xs).length = xs.length := (srt_perm xs).length_eq
theorem srt_same {xs ys : List Int} (h : xs.Perm ys) : srtL xs = srtL ys :=
  List.Perm.eq_of_pairwise (fun a b _ _ h1 h2 => Int.le_antisymm h1 h2) (srt_sorted xs) (srt_sorted ys) ((srt_perm xs).trans (h.trans (srt_perm ys).symm))
theorem srt_next (xs : List Int) (k : Nat) (h : k < xs.length) : srtL (xs.take (k + 1)) = insL (srtL (xs.take k)) xs[k] := by
  unfold srtL; rw [List.take_succ_eq_append_getElem h, List.foldl_append]; rfl
end Go.Proofs.Ytldhbbbkfnfhoaa
