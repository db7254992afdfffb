/- Slices of slices of integers: rows of the call's own, each in a block of its own. No program is named. -/
import Derived.Test.YthcnmaapcniehaaMem
namespace Go.Proofs.Ythcnmaapcniehaa
open Go.RowKit
set_option linter.unusedVariables false

/-- The slice values vs own the rows, each in a block of its own from lo on and below hi. -/
def RowsOwn (e : TypeId) (w : World) (lo hi : Nat) (vs : List Value) (rows : List (List Int)) : Prop :=
  vs.length = rows.length ∧ (∀ i (h1 : i < vs.length) (h2 : i < rows.length), OwnI e w lo hi vs[i] rows[i]) ∧
  ∀ i j (hi : i < vs.length) (hj : j < vs.length) g, i ≠ j → vs[i].ownBlock = some g → vs[j].ownBlock ≠ some g

section
variable {e : TypeId} {w w' : World} {lo hi : Nat} {vs : List Value} {rows : List (List Int)}

theorem RowsOwn.nil (e : TypeId) (w : World) (lo hi : Nat) : RowsOwn e w lo hi [] [] := ⟨rfl, fun i h => absurd h (Nat.not_lt_zero _), fun i j h => absurd h (Nat.not_lt_zero _)⟩

theorem RowsOwn.map (h : RowsOwn e w lo hi vs rows) {lo' hi' : Nat} (hm : ∀ v xs, OwnI e w lo hi v xs → OwnI e w' lo' hi' v xs) : RowsOwn e w' lo' hi' vs rows :=
  ⟨h.1, fun i h1 h2 => hm _ _ (h.2.1 i h1 h2), h.2.2⟩

theorem RowsOwn.below (h : RowsOwn e w lo hi vs rows) {B : Nat} (hb : Below B w w') (hd : hi ≤ B) : RowsOwn e w' lo hi vs rows := h.map fun _ _ o => o.below hb hd
theorem RowsOwn.chg (h : RowsOwn e w lo hi vs rows) {l h' : Nat} (hc : Chg l h' w w') (hd : hi ≤ l ∨ h' ≤ lo) : RowsOwn e w' lo hi vs rows := h.map fun _ _ o => o.chg hc hd
theorem OwnI.wide {v : Value} {xs : List Int} (h : OwnI e w lo hi v xs) {lo' hi' : Nat} (h1 : lo' ≤ lo) (h2 : hi ≤ hi') : OwnI e w lo' hi' v xs := ⟨h.1.wide h1 h2, h.2⟩
theorem RowsOwn.wide (h : RowsOwn e w lo hi vs rows) {lo' hi' : Nat} (h1 : lo' ≤ lo) (h2 : hi ≤ hi') : RowsOwn e w lo' hi' vs rows := h.map fun _ _ o => o.wide h1 h2

/-- One row more, in blocks behind all others. -/
theorem RowsOwn.snoc (h : RowsOwn e w lo hi vs rows) {hi' : Nat} {v : Value} {xs : List Int} (ho : OwnI e w hi hi' v xs) (hlh : lo ≤ hi) (hhh : hi ≤ hi') : RowsOwn e w lo hi' (vs ++ [v]) (rows ++ [xs]) := by
  refine ⟨by simp [h.1], fun i h1 h2 => ?_, fun i j h1 h2 g hne hg => ?_⟩
  · by_cases hi1 : i < vs.length
    · rw [List.getElem_append_left hi1, List.getElem_append_left (by rw [← h.1]; exact hi1)]
      exact (h.2.1 i hi1 _).wide (Nat.le_refl _) hhh
    · have hi2 : i = vs.length := by simp at h1; omega
      subst hi2
      rw [List.getElem_append_right (Nat.le_refl _), List.getElem_append_right (by rw [h.1]; exact Nat.le_refl _)]
      simp only [List.getElem_singleton]
      exact ho.wide hlh (Nat.le_refl _)
  · have key : ∀ i (h1 : i < vs.length) g, vs[i].ownBlock = some g → g < hi := fun i h1 g hg => ((h.2.1 i h1 (by rw [← h.1]; exact h1)).1.lt hg).2.1
    have key2 : ∀ g, v.ownBlock = some g → hi ≤ g := fun g hg => (ho.1.lt hg).1
    simp at h1 h2
    by_cases hi1 : i < vs.length <;> by_cases hj1 : j < vs.length
    · rw [List.getElem_append_left hi1] at hg
      rw [List.getElem_append_left hj1]
      exact h.2.2 i j hi1 hj1 g hne hg
    · have : j = vs.length := by omega
      subst this
      rw [List.getElem_append_left hi1] at hg
      rw [List.getElem_append_right (Nat.le_refl _)]
      simp only [List.getElem_singleton]
      intro hg2
      have := key i hi1 g hg; have := key2 g hg2; omega
    · have : i = vs.length := by omega
      subst this
      rw [List.getElem_append_right (Nat.le_refl _)] at hg
      simp only [List.getElem_singleton] at hg
      rw [List.getElem_append_left hj1]
      intro hg2
      have := key j hj1 g hg2; have := key2 g hg; omega
    · omega
end

/-- A fresh slice of fresh rows. -/
def OwnSS (e ee : TypeId) (w : World) (lo hi : Nat) (v : Value) (rows : List (List Int)) : Prop :=
  ∃ vs, Own ee w lo hi v vs ∧ RowsOwn e w lo hi vs rows

section
variable {e ee : TypeId} {w w' : World} {lo hi : Nat} {v : Value} {rows : List (List Int)}
theorem OwnSS.below (h : OwnSS e ee w lo hi v rows) {B : Nat} (hb : Below B w w') (hd : hi ≤ B) : OwnSS e ee w' lo hi v rows := by
  obtain ⟨vs, h1, h2⟩ := h; exact ⟨vs, h1.below hb hd, h2.below hb hd⟩
theorem OwnSS.chg (h : OwnSS e ee w lo hi v rows) {l h' : Nat} (hc : Chg l h' w w') (hd : hi ≤ l ∨ h' ≤ lo) : OwnSS e ee w' lo hi v rows := by
  obtain ⟨vs, h1, h2⟩ := h; exact ⟨vs, h1.chg hc hd, h2.chg hc hd⟩
theorem OwnSS.wide (h : OwnSS e ee w lo hi v rows) {lo' hi' : Nat} (h1 : lo' ≤ lo) (h2 : hi ≤ hi') : OwnSS e ee w lo' hi' v rows := by
  obtain ⟨vs, h3, h4⟩ := h; exact ⟨vs, h3.wide h1 h2, h4.wide h1 h2⟩
theorem OwnSS.intss (h : OwnSS e ee w lo hi v rows) : IntSS w v rows := by
  obtain ⟨vs, h1, h2⟩ := h
  exact h1.sl h2.1 fun k k1 k2 => (h2.2.1 k k1 k2).ints
theorem OwnSS.nil (e ee : TypeId) (w : World) (lo hi : Nat) : OwnSS e ee w lo hi (.slice none 0 0) [] := ⟨[], Own.nil _ _ _ _, RowsOwn.nil _ _ _ _⟩
theorem OwnSS.lit0 (e ee : TypeId) (w : World) (lo : Nat) (hlo : lo ≤ w.heap.size) : OwnSS e ee (w.alloc (.cells #[] ee)) lo (w.alloc (.cells #[] ee)).heap.size (.slice (some ⟨w.heap.size, 0, none⟩) 0 0) [] := ⟨[], Own.lit0 ee w lo hlo, RowsOwn.nil _ _ _ _⟩
end

/-- The sum of the rows' lengths. -/
def sumLen (rows : List (List Int)) : Nat := (rows.map List.length).sum
theorem sumLen_take_succ (rows : List (List Int)) (k : Nat) (h : k < rows.length) : sumLen (rows.take (k + 1)) = sumLen (rows.take k) + rows[k].length := by
  unfold sumLen; rw [List.take_succ_eq_append_getElem h, List.map_append, List.sum_append]; simp
theorem sumLen_take_le (rows : List (List Int)) (k : Nat) : sumLen (rows.take k) ≤ sumLen rows := by
  unfold sumLen
  conv => rhs; rw [← List.take_append_drop k rows, List.map_append, List.sum_append]
  exact Nat.le_add_right _ _
theorem len_le_sumLen (rows : List (List Int)) (k : Nat) (h : k < rows.length) : sumLen (rows.take k) + rows[k].length ≤ sumLen rows := by
  rw [← sumLen_take_succ rows k h]; exact sumLen_take_le rows _

/-- A row of cells at the head of block g, known to have n cells: what a loop that fills it carries. -/
def FillsV (e : TypeId) (base g cap : Nat) (wr : World) (n : Nat) (us : List Value) : Prop :=
  us.length = n ∧ wr.ownsRow base e 1 (.slice (some ⟨g, 0, none⟩) n cap) n us

section
variable {e : TypeId} {base g cap : Nat} {wr : World} {n : Nat} {us : List Value}
theorem FillsV.cell (h : FillsV e base g cap wr n us) (k : Nat) (hk : k < n) : ∃ u, wr.cell? ⟨g, k, none⟩ = some u ∧ us[k]? = some u := by
  rw [h.2.cellAt k (by omega)]
  exact ⟨us[k]'(by rw [h.1]; exact hk), by simp [h.1, hk], by simp [h.1, hk]⟩
theorem FillsV.frozen (h : FillsV e base g cap wr n us) (k : Nat) : wr.frozen? ⟨g, k, none⟩ = false := h.2.frozenAt k
theorem FillsV.set (h : FillsV e base g cap wr n us) (k : Nat) (x : Value) : FillsV e base g cap (wr.setCell ⟨g, k, none⟩ x) n (us.set k x) :=
  ⟨by simp [h.1], (h.2.stored k x).1⟩
theorem FillsV.block (h : FillsV e base g cap wr n us) {w' : World} (hb : w'.heap[g]? = wr.heap[g]?) : FillsV e base g cap w' n us :=
  ⟨h.1, ownsRow_block h.2 fun g' hg => by simp [Value.ownBlock] at hg; subst hg; exact hb⟩
theorem FillsV.lt (h : FillsV e base g cap wr n us) : g < wr.heap.size := (h.2.lt g rfl).2
end

theorem OwnI.shape {e : TypeId} {w : World} {lo hi : Nat} {v : Value} {xs : List Int} (h : OwnI e w lo hi v xs) : ∃ ao l c, v = .slice ao l c := by
  rcases h.1.cases with ⟨rfl, _⟩ | ⟨g, cap, rfl, _⟩
  · exact ⟨_, _, _, rfl⟩
  · exact ⟨_, _, _, rfl⟩
theorem OwnSS.shape {e ee : TypeId} {w : World} {lo hi : Nat} {v : Value} {rows : List (List Int)} (h : OwnSS e ee w lo hi v rows) : ∃ ao l c, v = .slice ao l c := by
  obtain ⟨vs, h1, _⟩ := h
  rcases h1.cases with ⟨rfl, _⟩ | ⟨g, cap, rfl, _⟩
  · exact ⟨_, _, _, rfl⟩
  · exact ⟨_, _, _, rfl⟩

theorem chg_setCell (w : World) (g k : Nat) (u : Value) : Chg g (g + 1) w (w.setCell ⟨g, k, none⟩ u) :=
  ⟨rfl, rfl, rfl, by simp [World.setCell], fun i _ ho => Below.heap_setCell _ _ _ _ (by show i ≠ g; omega)⟩

theorem OwnSS.set {e ee : TypeId} {w : World} {lo hi : Nat} {v : Value} {rows : List (List Int)} (h : OwnSS e ee w lo hi v rows) {g k : Nat} (hg : g < lo) (u : Value) : OwnSS e ee (w.setCell ⟨g, k, none⟩ u) lo hi v rows := h.chg (chg_setCell w g k u) (.inr (by omega))
theorem OwnI.set {e : TypeId} {w : World} {lo hi : Nat} {v : Value} {xs : List Int} (h : OwnI e w lo hi v xs) {g k : Nat} (hg : g < lo) (u : Value) : OwnI e (w.setCell ⟨g, k, none⟩ u) lo hi v xs := h.chg (chg_setCell w g k u) (.inr (by omega))
theorem size_setCell (w : World) (a : Addr) (u : Value) : (w.setCell a u).heap.size = w.heap.size := by simp [World.setCell]

theorem take_set' {α : Type} (us : List α) (k : Nat) (x : α) (h : k < us.length) : (us.set k x).take (k + 1) = us.take k ++ [x] := by
  rw [List.take_succ_eq_append_getElem (by simp; omega), List.getElem_set_self, List.take_set_of_le (Nat.le_refl _)]

end Go.Proofs.Ythcnmaapcniehaa
