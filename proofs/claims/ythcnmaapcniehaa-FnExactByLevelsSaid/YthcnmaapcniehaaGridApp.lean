/- One row more, appended to a slice of rows of the call's own. -/
import Derived.Test.YthcnmaapcniehaaNetA
namespace Go.Proofs.Ythcnmaapcniehaa
open Go.RowKit
set_option linter.unusedVariables false

/-- Rows of different types lie in different blocks. -/
theorem own_ne {e e' : TypeId} {w : World} {lo hi lo' hi' : Nat} {v v' : Value} {us us' : List Value} (h : Own e w lo hi v us) (h' : Own e' w lo' hi' v' us') (hne : e ≠ e') {g : Nat} (hg : v.ownBlock = some g) : v'.ownBlock ≠ some g := by
  intro hg'
  rcases h.1.2 with ⟨rfl, _⟩ | ⟨g1, cap1, cur1, rfl, _, hgg1, _⟩
  · cases hg
  · rcases h'.1.2 with ⟨rfl, _⟩ | ⟨g2, cap2, cur2, rfl, _, hgg2, _⟩
    · cases hg'
    · simp [Value.ownBlock] at hg hg'
      subst hg; subst hg'
      rw [hgg1] at hgg2
      simp only [Option.some.injEq, Obj.cells.injEq] at hgg2
      exact hne hgg2.2.1

theorem OwnSS.app {wr W w' : World} {lo : Nat} {v v' row : Value} {vs : List Value} {rows : List (List Int)} {xs : List Int} (hO : Own tInts wr lo wr.heap.size v vs) (hR : RowsOwn tInt wr lo wr.heap.size vs rows)
    (hW : Below wr.heap.size wr W) (R : OwnI tInt W wr.heap.size W.heap.size row xs) (hlo : lo ≤ wr.heap.size) (hown : Own tInts w' lo w'.heap.size v' (vs ++ [row])) (hg : W.grownBy w' v.ownBlock) :
    OwnSS tInt tInts w' lo w'.heap.size v' (rows ++ [xs]) := by
  have hOW := hO.below hW (Nat.le_refl _)
  have hne : tInt ≠ tInts := by decide
  have hs := hg.size
  have key : ∀ u ys (l h : Nat), OwnI tInt W l h u ys → OwnI tInt w' l h u ys := fun u ys l h ho =>
    ⟨⟨ownsRow_block ho.1.1 fun g hgu => hg.block g (ho.1.lt hgu).2.2 (fun e => own_ne ho.1 hOW hne hgu e.symm), ho.1.2⟩, ho.2⟩
  have hR2 : RowsOwn tInt W lo wr.heap.size vs rows := hR.below hW (Nat.le_refl _)
  have hR3 : RowsOwn tInt w' lo wr.heap.size vs rows := hR2.map fun u ys ho => key u ys _ _ ho
  refine ⟨vs ++ [row], hown, ?_⟩
  exact (hR3.snoc (key row xs _ _ R) hlo hW.size).wide (Nat.le_refl _) hs
end Go.Proofs.Ythcnmaapcniehaa
