/- A region that loads two networks and compares one with a fresh copy of the other: what it holds from call to call. -/
import Derived.Test.YthcnmaapcniehaaNetA
import Derived.Test.YthcnmaapcniehaaUp
import Derived.Deep.RegionHeld3
namespace Go.Proofs.Ythcnmaapcniehaa
open Go.RowKit

theorem held4 {W w1 w2 : World} {a b c d : Addr} {x y z t : Value} (hb : Below w1.heap.size w1 w2)
    (h : (w1.cell? a = some x ∧ w1.cell? b = some y ∧ w1.cell? c = some z ∧ w1.cell? d = some t) ∧ Below W.heap.size W w1) :
    (w2.cell? a = some x ∧ w2.cell? b = some y ∧ w2.cell? c = some z ∧ w2.cell? d = some t) ∧ Below W.heap.size W w2 :=
  ⟨⟨Below.keeps hb _ _ h.1.1, Below.keeps hb _ _ h.1.2.1, Below.keeps hb _ _ h.1.2.2.1, Below.keeps hb _ _ h.1.2.2.2⟩, h.2.trans (hb.mono h.2.size)⟩
theorem held2 {W w1 w2 : World} {a b : Addr} {x y : Value} (hb : Below w1.heap.size w1 w2)
    (h : (w1.cell? a = some x ∧ w1.cell? b = some y) ∧ Below W.heap.size W w1) : (w2.cell? a = some x ∧ w2.cell? b = some y) ∧ Below W.heap.size W w2 :=
  ⟨⟨Below.keeps hb _ _ h.1.1, Below.keeps hb _ _ h.1.2⟩, h.2.trans (hb.mono h.2.size)⟩
theorem chg_cell {lo hi : Nat} {w w' : World} (h : Chg lo hi w w') {g o : Nat} (hg : g < lo ∨ hi ≤ g) {u : Value} (hu : w.cell? ⟨g, o, none⟩ = some u) : w'.cell? ⟨g, o, none⟩ = some u := by
  have hlt := World.block_lt_of_cell? w _ hu
  rw [← hu]
  exact World.cell?_of_block (w := w) (a := ⟨g, o, none⟩) (h.block g hlt hg)
end Go.Proofs.Ythcnmaapcniehaa
