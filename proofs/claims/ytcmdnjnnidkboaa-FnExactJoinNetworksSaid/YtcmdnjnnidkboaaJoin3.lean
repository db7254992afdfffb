/- What a region of a law of two networks holds from step to step. -/
import Derived.Test.YtcmdnjnnidkboaaJoin2
namespace Go.Proofs.Ytcmdnjnnidkboaa
open Go.RowKit
set_option linter.unusedVariables false
theorem held4_st {W w1 : World} {a b c d : Addr} {x y z t u v : Value} {g : Nat} (h : (w1.cell? a = some x ∧ w1.cell? b = some y ∧ w1.cell? c = some z ∧ w1.cell? d = some t) ∧ Below W.heap.size W w1) (hg : W.heap.size ≤ g)
    (h1 : a.block < W.heap.size ∧ b.block < W.heap.size) (h2 : c.block < W.heap.size ∧ d.block < W.heap.size) :
    (((w1.setCell ⟨g, 0, none⟩ u).setCell ⟨g, 1, none⟩ v).cell? a = some x ∧ ((w1.setCell ⟨g, 0, none⟩ u).setCell ⟨g, 1, none⟩ v).cell? b = some y ∧ ((w1.setCell ⟨g, 0, none⟩ u).setCell ⟨g, 1, none⟩ v).cell? c = some z ∧ ((w1.setCell ⟨g, 0, none⟩ u).setCell ⟨g, 1, none⟩ v).cell? d = some t) ∧ Below W.heap.size W ((w1.setCell ⟨g, 0, none⟩ u).setCell ⟨g, 1, none⟩ v) := by
  have hb : Below W.heap.size w1 ((w1.setCell ⟨g, 0, none⟩ u).setCell ⟨g, 1, none⟩ v) := (Below.setCell (p := ⟨g, 0, none⟩) (Below.mono (Below.refl _ w1) h.2.size) hg _).setCell hg _
  exact ⟨⟨(hb.cell h1.1).trans h.1.1, (hb.cell h1.2).trans h.1.2.1, (hb.cell h2.1).trans h.1.2.2.1, (hb.cell h2.2).trans h.1.2.2.2⟩, h.2.trans hb⟩
theorem held4_sw {W w1 : World} {o o' : Obj} {a b c d : Addr} {x y z t : Value} (h : ((w1.alloc o).cell? a = some x ∧ (w1.alloc o).cell? b = some y ∧ (w1.alloc o).cell? c = some z ∧ (w1.alloc o).cell? d = some t) ∧ Below W.heap.size W (w1.alloc o)) (hW : W.heap.size ≤ w1.heap.size)
    (h1 : a.block < W.heap.size ∧ b.block < W.heap.size) (h2 : c.block < W.heap.size ∧ d.block < W.heap.size) :
    ((w1.alloc o').cell? a = some x ∧ (w1.alloc o').cell? b = some y ∧ (w1.alloc o').cell? c = some z ∧ (w1.alloc o').cell? d = some t) ∧ Below W.heap.size W (w1.alloc o') := by
  have hb : Below W.heap.size (w1.alloc o) (w1.alloc o') := ⟨rfl, rfl, rfl, by simp, fun k hk => by rw [Below.heap_alloc _ _ _ (by omega), Below.heap_alloc _ _ _ (by omega)]⟩
  exact ⟨⟨(hb.cell h1.1).trans h.1.1, (hb.cell h1.2).trans h.1.2.1, (hb.cell h2.1).trans h.1.2.2.1, (hb.cell h2.2).trans h.1.2.2.2⟩, h.2.trans hb⟩
end Go.Proofs.Ytcmdnjnnidkboaa
