/- Plain laws of ByLevels: the order of comparators by level, least wire and number; the reference's three loops lay it out ascending. No program is named. -/
import Derived.Test.YthcnmaapcniehaaByC
import Derived.Test.YthcnmaapcniehaaSymQ
namespace Go.Proofs.Ythcnmaapcniehaa
open Go.RowKit
set_option linter.unusedVariables false

/-- A comparator's level and its lesser wire. -/
def lvB (ps : List (Nat × Nat)) (k : Nat) : Int := (levL ps).getD k 0
def mnB (ps : List (Nat × Nat)) (k : Nat) : Nat := min (ps.getD k (0, 0)).1 (ps.getD k (0, 0)).2
/-- By level, then by lesser wire, then by number. -/
def ltB (ps : List (Nat × Nat)) (i j : Nat) : Prop := lvB ps i < lvB ps j ∨ (lvB ps i = lvB ps j ∧ (mnB ps i < mnB ps j ∨ (mnB ps i = mnB ps j ∧ i < j)))
theorem ltB_irr (ps : List (Nat × Nat)) (i : Nat) : ¬ ltB ps i i := by unfold ltB; omega
theorem ltB_trans (ps : List (Nat × Nat)) (i j k : Nat) (h1 : ltB ps i j) (h2 : ltB ps j k) : ltB ps i k := by unfold ltB at *; omega
theorem cmpI_ways (x y : Int) : (x < y ∧ cmpI x y = -1) ∨ (x = y ∧ cmpI x y = 0) ∨ (y < x ∧ cmpI x y = 1) := by
  unfold cmpI
  by_cases h1 : x < y
  · rw [if_pos h1]; exact .inl ⟨h1, rfl⟩
  · rw [if_neg h1]
    by_cases h2 : y < x
    · rw [if_pos h2]; exact .inr (.inr ⟨h2, rfl⟩)
    · rw [if_neg h2]; exact .inr (.inl ⟨by omega, rfl⟩)
theorem cfN_ways (ps : List (Nat × Nat)) (i j : Nat) (h : j < i) : (cfN (levL ps) ps i j < 0 ∧ ltB ps i j) ∨ (¬ cfN (levL ps) ps i j < 0 ∧ ltB ps j i) := by
  have e : cfN (levL ps) ps i j = orI (cmpI (lvB ps i) (lvB ps j)) (cmpI (mnB ps i : Nat) (mnB ps j : Nat)) := rfl
  rw [e]
  unfold orI ltB
  rcases cmpI_ways (lvB ps i) (lvB ps j) with ⟨h1, e1⟩ | ⟨h1, e1⟩ | ⟨h1, e1⟩
  · rw [e1, if_neg (by omega)]; omega
  · rw [e1, if_pos rfl]
    rcases cmpI_ways (mnB ps i : Nat) (mnB ps j : Nat) with ⟨h2, e2⟩ | ⟨h2, e2⟩ | ⟨h2, e2⟩
    · rw [e2]; omega
    · rw [e2]; omega
    · rw [e2]; omega
  · rw [e1, if_neg (by omega)]; omega

/-- The comparators of level n whose lesser wire is w, among the first k. -/
def byI (ps : List (Nat × Nat)) (n w : Nat) : Nat → List Nat
  | 0 => []
  | k + 1 => if lvB ps k = (n : Int) ∧ mnB ps k = w then byI ps n w k ++ [k] else byI ps n w k
def byW (ps : List (Nat × Nat)) (n : Nat) : Nat → List Nat
  | 0 => []
  | w + 1 => byW ps n w ++ byI ps n w ps.length
def byN (ps : List (Nat × Nat)) (N : Nat) : Nat → List Nat
  | 0 => []
  | n + 1 => byN ps N n ++ byW ps (n + 1) N
theorem byI_yes {ps : List (Nat × Nat)} {n w k : Nat} (h1 : lvB ps k = (n : Int)) (h2 : mnB ps k = w) : byI ps n w (k + 1) = byI ps n w k ++ [k] := if_pos ⟨h1, h2⟩
theorem byI_no {ps : List (Nat × Nat)} {n w k : Nat} (h : ¬ (lvB ps k = (n : Int) ∧ mnB ps k = w)) : byI ps n w (k + 1) = byI ps n w k := if_neg h
theorem mem_byI {ps : List (Nat × Nat)} {n w k x : Nat} : x ∈ byI ps n w k ↔ x < k ∧ lvB ps x = (n : Int) ∧ mnB ps x = w := by
  induction k with
  | zero => simp [byI]
  | succ k ih =>
    unfold byI
    by_cases h : lvB ps k = (n : Int) ∧ mnB ps k = w
    · rw [if_pos h, List.mem_append, ih, List.mem_singleton]
      constructor
      · rintro (⟨h1, h2⟩ | rfl)
        · exact ⟨by omega, h2⟩
        · exact ⟨by omega, h⟩
      · rintro ⟨h1, h2⟩
        rcases Nat.lt_or_ge x k with h3 | h3
        · exact .inl ⟨h3, h2⟩
        · exact .inr (by omega)
    · rw [if_neg h, ih]
      constructor
      · rintro ⟨h1, h2⟩; exact ⟨by omega, h2⟩
      · rintro ⟨h1, h2⟩
        rcases Nat.lt_or_ge x k with h3 | h3
        · exact ⟨h3, h2⟩
        · obtain rfl : x = k := by omega
          exact absurd h2 h
theorem mem_byW {ps : List (Nat × Nat)} {n w x : Nat} : x ∈ byW ps n w ↔ x < ps.length ∧ lvB ps x = (n : Int) ∧ mnB ps x < w := by
  induction w with
  | zero => simp [byW]
  | succ w ih =>
    unfold byW
    rw [List.mem_append, ih, mem_byI]
    constructor
    · rintro (⟨h1, h2, h3⟩ | ⟨h1, h2, h3⟩)
      · exact ⟨h1, h2, by omega⟩
      · exact ⟨h1, h2, by omega⟩
    · rintro ⟨h1, h2, h3⟩
      rcases Nat.lt_or_ge (mnB ps x) w with h4 | h4
      · exact .inl ⟨h1, h2, h4⟩
      · exact .inr ⟨h1, h2, by omega⟩
theorem mem_byN {ps : List (Nat × Nat)} {N n x : Nat} : x ∈ byN ps N n ↔ x < ps.length ∧ 1 ≤ lvB ps x ∧ lvB ps x ≤ (n : Int) ∧ mnB ps x < N := by
  induction n with
  | zero =>
    simp only [byN, List.not_mem_nil, false_iff]
    rintro ⟨_, h1, h2, _⟩
    simp at h2; omega
  | succ n ih =>
    unfold byN
    rw [List.mem_append, ih, mem_byW]
    constructor
    · rintro (⟨h1, h2, h3, h4⟩ | ⟨h1, h2, h3⟩)
      · exact ⟨h1, h2, by omega, h4⟩
      · exact ⟨h1, by omega, by omega, h3⟩
    · rintro ⟨h1, h2, h3, h4⟩
      by_cases h5 : lvB ps x ≤ (n : Int)
      · exact .inl ⟨h1, h2, h5, h4⟩
      · exact .inr ⟨h1, by omega, h4⟩
theorem pair_byI (ps : List (Nat × Nat)) (n w k : Nat) : (byI ps n w k).Pairwise (ltB ps) := by
  induction k with
  | zero => exact List.Pairwise.nil
  | succ k ih =>
    unfold byI
    split
    · rename_i h
      refine List.pairwise_append.2 ⟨ih, List.pairwise_singleton _ _, fun a ha b hb => ?_⟩
      rw [List.mem_singleton] at hb
      subst hb
      obtain ⟨h1, h2, h3⟩ := mem_byI.1 ha
      unfold ltB; omega
    · exact ih
theorem pair_byW (ps : List (Nat × Nat)) (n w : Nat) : (byW ps n w).Pairwise (ltB ps) := by
  induction w with
  | zero => exact List.Pairwise.nil
  | succ w ih =>
    refine List.pairwise_append.2 ⟨ih, pair_byI ps n w _, fun a ha b hb => ?_⟩
    obtain ⟨h1, h2, h3⟩ := mem_byW.1 ha
    obtain ⟨h4, h5, h6⟩ := mem_byI.1 hb
    unfold ltB; omega
theorem pair_byN (ps : List (Nat × Nat)) (N n : Nat) : (byN ps N n).Pairwise (ltB ps) := by
  induction n with
  | zero => exact List.Pairwise.nil
  | succ n ih =>
    refine List.pairwise_append.2 ⟨ih, pair_byW ps _ N, fun a ha b hb => ?_⟩
    obtain ⟨h1, h2, h3, h4⟩ := mem_byN.1 ha
    obtain ⟨h5, h6, h7⟩ := mem_byW.1 hb
    unfold ltB; omega

theorem sorted_eq {r : Nat → Nat → Prop} (irr : ∀ x, ¬ r x x) (tr : ∀ x y z, r x y → r y z → r x z) : ∀ l1 l2 : List Nat, l1.Pairwise r → l2.Pairwise r → (∀ x, x ∈ l1 ↔ x ∈ l2) → l1 = l2 := by
  intro l1
  induction l1 with
  | nil =>
    intro l2 _ _ h
    cases l2 with
    | nil => rfl
    | cons b t => exact absurd ((h b).2 (by simp)) (by simp)
  | cons a s ih =>
    intro l2 h1 h2 h
    cases l2 with
    | nil => exact absurd ((h a).1 (by simp)) (by simp)
    | cons b t =>
      obtain ⟨p1, p2⟩ := List.pairwise_cons.1 h1
      obtain ⟨q1, q2⟩ := List.pairwise_cons.1 h2
      have hab : a = b := by
        rcases List.mem_cons.1 ((h a).1 (by simp)) with e | ha
        · exact e
        · rcases List.mem_cons.1 ((h b).2 (by simp)) with e | hb
          · exact e.symm
          · exact absurd (tr _ _ _ (p1 b hb) (q1 a ha)) (irr a)
      subst hab
      congr 1
      refine ih t p2 q2 fun x => ⟨fun hx => ?_, fun hx => ?_⟩
      · rcases List.mem_cons.1 ((h x).1 (List.mem_cons_of_mem _ hx)) with e | h9
        · subst e; exact absurd (p1 x hx) (irr x)
        · exact h9
      · rcases List.mem_cons.1 ((h x).2 (List.mem_cons_of_mem _ hx)) with e | h9
        · subst e; exact absurd (q1 x hx) (irr x)
        · exact h9

/-- The comparators in the order l. -/
def pkL (ps : List (Nat × Nat)) (l : List Nat) : List (Nat × Nat) := l.map fun i => ps.getD i (0, 0)
theorem pkL_length (ps : List (Nat × Nat)) (l : List Nat) : (pkL ps l).length = l.length := by simp [pkL]
theorem pkL_snoc (ps : List (Nat × Nat)) (l : List Nat) (k : Nat) (h : k < ps.length) : rowsOf (pkL ps (l ++ [k])) = rowsOf (pkL ps l) ++ [[(ps[k].1 : Int), (ps[k].2 : Int)]] := by
  simp [pkL, rowsOf, List.getD_eq_getElem?_getD, List.getElem?_eq_getElem h]

theorem levTo_pos (ps : List (Nat × Nat)) (k : Nat) : k ≤ ps.length → ∀ x ∈ (levTo ps k).2, 1 ≤ x := by
  induction k with
  | zero => intro _ x hx; simp [levTo] at hx
  | succ k ih =>
    intro hk x hx
    rw [levTo_succ ps k hk] at hx
    simp only [levStep, List.mem_append, List.mem_singleton] at hx
    rcases hx with hx | hx
    · exact ih (by omega) x hx
    · have := (levTo_at ps k (by omega)).1 ps[k].1
      omega
theorem lvB_bd (ps : List (Nat × Nat)) (k : Nat) (h : k < ps.length) : 1 ≤ lvB ps k ∧ lvB ps k ≤ ps.length := by
  have hl := levL_length ps
  have hm : lvB ps k ∈ levL ps := by unfold lvB; exact getD_mem' (by omega) 0
  exact ⟨levTo_pos ps _ (Nat.le_refl _) _ hm, ((levTo_at ps ps.length (Nat.le_refl _)).2.2 _ hm).2⟩
theorem maxTo_ge (xs : List Int) (m : Nat) : ∀ k, k ≤ xs.length → ∀ i, i < k → xs.getD i 0 ≤ maxTo xs k := by
  intro k
  induction k with
  | zero => intro _ i h; omega
  | succ k ih =>
    intro hk i hi
    rw [maxTo_succ xs k hk]
    rcases Nat.lt_or_ge i k with h | h
    · have := ih (by omega) i h; omega
    · obtain rfl : i = k := by omega
      rw [List.getD_eq_getElem?_getD, List.getElem?_eq_getElem hk, Option.getD_some]; omega
/-- What the reference makes: every comparator, once, in order. -/
theorem byN_all {N : Nat} {ps : List (Nat × Nat)} (hp : PsOk N ps) {D : Nat} (hD : maxTo (levL ps) ps.length ≤ D) (x : Nat) : x ∈ byN ps N D ↔ x < ps.length := by
  rw [mem_byN]
  refine ⟨fun h => h.1, fun h => ⟨h, (lvB_bd ps x h).1, ?_, ?_⟩⟩
  · have h1 := maxTo_ge (levL ps) 0 ps.length (by rw [levL_length]; exact Nat.le_refl _) x h
    exact Int.le_trans h1 hD
  · have := (hp.2.2.2 x h).1
    unfold mnB
    rw [List.getD_eq_getElem?_getD, List.getElem?_eq_getElem h, Option.getD_some]
    omega
end Go.Proofs.Ythcnmaapcniehaa
