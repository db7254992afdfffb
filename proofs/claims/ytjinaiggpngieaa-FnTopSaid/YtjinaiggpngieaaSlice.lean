/- Contracts of the laws' helpers on slices of integers: toIntS, eqIntS, markIntS, heldIntS. -/
import Derived.Test.YtjinaiggpngieaaBase
namespace Go.Proofs.Ytjinaiggpngieaa
open Go.RowKit
set_option linter.unusedVariables false

theorem take_set {α : Type} (xs ys : List α) (k : Nat) (hl : ys.length = xs.length) (h : k < xs.length) (hp : ys.take k = xs.take k) : (ys.set k (xs[k])).take (k + 1) = xs.take (k + 1) := by
  rw [List.take_succ_eq_append_getElem (by simp; omega), List.take_succ_eq_append_getElem h, List.getElem_set_self, List.take_set_of_le (Nat.le_refl _), hp]

/-- A row of integers at the head of block g, known to have n cells: what a loop that fills it carries. -/
def Fills (e : TypeId) (base g cap : Nat) (wr : World) (n : Nat) (ys : List Int) : Prop :=
  ys.length = n ∧ wr.ownsRow base e 1 (.slice (some ⟨g, 0, none⟩) n cap) n (ys.map (Value.int .i64))

section
variable {e : TypeId} {base g cap : Nat} {wr : World} {n : Nat} {ys : List Int}
theorem Fills.cell (h : Fills e base g cap wr n ys) (k : Nat) (hk : k < n) : wr.cell? ⟨g, k, none⟩ = some (.int .i64 (ys[k]'(by rw [h.1]; exact hk))) := by
  rw [h.2.cellAt k (by omega)]; simp [h.1, hk]
theorem Fills.frozen (h : Fills e base g cap wr n ys) (k : Nat) : wr.frozen? ⟨g, k, none⟩ = false := h.2.frozenAt k
theorem Fills.set (h : Fills e base g cap wr n ys) (k : Nat) (x : Int) : Fills e base g cap (wr.setCell ⟨g, k, none⟩ (.int .i64 x)) n (ys.set k x) := by
  refine ⟨by simp [h.1], ?_⟩
  have := (h.2.stored k (.int .i64 x)).1
  simpa [List.map_set] using this
end

theorem Chg.setCell {lo hi : Nat} {w wr : World} (h : Chg lo hi w wr) {g k : Nat} (h1 : lo ≤ g) (h2 : g < hi) (u : Value) : Chg lo hi w (wr.setCell ⟨g, k, none⟩ u) :=
  ⟨h.os, h.tape, h.output, by simpa [World.setCell] using h.size, fun i hi' ho => by rw [Below.heap_setCell _ _ _ _ (by show i ≠ g; omega)]; exact h.block i hi' ho⟩
theorem Chg.refl (lo hi : Nat) (w : World) : Chg lo hi w w := ⟨rfl, rfl, rfl, Nat.le_refl _, fun _ _ _ => rfl⟩

def EqI (xs ys : List Int) : Prop := xs = ys
theorem take_no {α : Type} {xs ys : List α} {k : Nat} (h1 : k < xs.length) (h2 : k < ys.length) (h : xs[k] ≠ ys[k]) : xs ≠ ys := fun e => by subst e; exact h rfl

/-- The numbers that a marking lays: k, k + 1, .. -/
def marks (k : Int) (n : Nat) : List Int := (List.range n).map fun i => k + (i : Nat)
theorem marks_length (k : Int) (n : Nat) : (marks k n).length = n := by simp [marks]
theorem marks_get (k : Int) (n i : Nat) (h : i < (marks k n).length) : (marks k n)[i] = k + (i : Nat) := by simp [marks]

end Go.Proofs.Ytjinaiggpngieaa
