/- Contracts of the laws' helpers that mark a network's rows with running numbers, and ask whether the marks are still held. -/
import Derived.Test.YtldhbbbkfnfhoaaNetA
namespace Go.Proofs.Ytldhbbbkfnfhoaa
open Go.RowKit
set_option linter.unusedVariables false

/-- The rows behind a marking that begins at k. -/
def marksSS : Int → List (List Int) → List (List Int)
  | _, [] => []
  | k, r :: rs => marks k r.length :: marksSS (k + r.length) rs

theorem marksSS_length (rows : List (List Int)) : ∀ k, (marksSS k rows).length = rows.length := by
  induction rows with
  | nil => intro k; rfl
  | cons r rs ih => intro k; simp [marksSS, ih]

theorem marksSS_get (rows : List (List Int)) : ∀ (k : Int) (i : Nat) (h : i < rows.length) (h' : i < (marksSS k rows).length), (marksSS k rows)[i] = marks (k + sumLen (rows.take i)) rows[i].length := by
  induction rows with
  | nil => intro k i h; exact absurd h (Nat.not_lt_zero _)
  | cons r rs ih =>
    intro k i h h'
    cases i with
    | zero => simp [marksSS, sumLen]
    | succ i =>
      simp only [marksSS, List.getElem_cons_succ, List.take_succ_cons]
      rw [ih (k + r.length) i (by simpa using h)]
      congr 1
      simp [sumLen]; omega

theorem sumLen_marks (rows : List (List Int)) : ∀ k, sumLen (marksSS k rows) = sumLen rows := by
  induction rows with
  | nil => intro k; rfl
  | cons r rs ih =>
    intro k
    have := ih (k + r.length)
    unfold sumLen at *
    simp only [marksSS, List.map_cons, List.sum_cons, marks_length, this]

theorem set_mid {α : Type} (A B : List α) (y x : α) (j : Nat) (h : A.length = j) : (A ++ y :: B).set j x = A ++ x :: B := by subst h; simp

/-- A row, in its own block alone. -/
theorem OwnI.tight {e : TypeId} {w : World} {lo hi : Nat} {v : Value} {xs : List Int} (h : OwnI e w lo hi v xs) :
    (v = .slice none 0 0 ∧ xs = []) ∨ ∃ g, v.ownBlock = some g ∧ lo ≤ g ∧ g < hi ∧ g < w.heap.size ∧ OwnI e w g (g + 1) v xs := by
  obtain ⟨⟨h1, h2⟩, h3⟩ := h
  have h1' := h1
  rcases h1.2 with ⟨rfl, hn⟩ | ⟨g, cap, cur, rfl, hb, hgg, rest⟩
  · exact .inl ⟨rfl, List.map_eq_nil_iff.1 (List.eq_nil_of_length_eq_zero hn)⟩
  · exact .inr ⟨g, rfl, hb, h2 g rfl, (h1.lt g rfl).2, ⟨⟨h1.1, .inr ⟨g, cap, cur, rfl, Nat.le_refl _, hgg, rest⟩⟩, fun g' hg' => by simp [Value.ownBlock] at hg'; omega⟩, h3⟩

/-- One row of many is written anew. -/
theorem RowsOwn.put {e : TypeId} {w w' : World} {lo hi : Nat} {vs : List Value} {rows : List (List Int)} {i : Nat} {xs : List Int} (h : RowsOwn e w lo hi vs rows) (hi' : i < vs.length) {g : Nat} (hg : vs[i].ownBlock = some g)
    (ho : OwnI e w' lo hi vs[i] xs) (hc : Chg g (g + 1) w w') : RowsOwn e w' lo hi vs (rows.set i xs) := by
  refine ⟨by simp [h.1], fun j h1 h2 => ?_, h.2.2⟩
  by_cases hj : j = i
  · subst hj
    rw [List.getElem_set_self]
    exact ho
  · rw [List.getElem_set_ne (by omega)]
    have hr := h.2.1 j h1 (by simpa using h2)
    rcases hr.tight with ⟨hv, hx⟩ | ⟨g', hg', _, _, _, ht⟩
    · rw [hv, hx]; exact ⟨Own.nil _ _ _ _, by simp⟩
    · have hne : g' ≠ g := fun e => h.2.2 j i h1 hi' g' hj hg' (by rw [hg, e])
      have := ht.chg hc (by omega)
      exact this.wide (hr.1.lt hg').1 (hr.1.lt hg').2.1

theorem Chg.wide {lo hi lo' hi' : Nat} {w w' : World} (h : Chg lo hi w w') (h1 : lo' ≤ lo) (h2 : hi ≤ hi') : Chg lo' hi' w w' :=
  ⟨h.os, h.tape, h.output, h.size, fun k hk ho => h.block k hk (by omega)⟩
theorem Chg.trans {lo hi : Nat} {a b c : World} (h : Chg lo hi a b) (k : Chg lo hi b c) : Chg lo hi a c :=
  ⟨k.os.trans h.os, k.tape.trans h.tape, k.output.trans h.output, Nat.le_trans h.size k.size, fun i hi ho => (k.block i (Nat.lt_of_lt_of_le hi h.size) ho).trans (h.block i hi ho)⟩
theorem Chg.drew {lo hi : Nat} {a b : World} (h : Chg lo hi a b) : Chg lo hi a b.drew := ⟨h.os, h.tape, h.output, h.size, h.block⟩

end Go.Proofs.Ytldhbbbkfnfhoaa
