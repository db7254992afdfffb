/- Contracts: own, l02Copy: a network's or a list of pairs' copy in memory of its own. -/
import Derived.Test.YthcnmaapcniehaaNetIn
import Derived.Test.YthcnmaapcniehaaAppNet
namespace Go.Proofs.Ythcnmaapcniehaa
open Go.RowKit
set_option linter.unusedVariables false

theorem cell_al {w : World} {o : Obj} {a : Addr} {x : Value} (h : w.cell? a = some x) : (w.alloc o).cell? a = some x := Below.keeps ((Below.refl _ w).alloc (Nat.le_refl _) o) _ _ h
theorem cell_st {w : World} {a c : Addr} {v x : Value} (h : w.cell? a = some x) (ha : c.block ≠ a.block) : (w.setCell c v).cell? a = some x := (World.cell?_setCell_other _ _ _ _ (fun e => ha (by rw [e]))).trans h
theorem cell_gr {w w1 : World} {r : Option Nat} {a : Addr} {x : Value} (hg : w.grownBy w1 r) (h : w.cell? a = some x) (ha : some a.block ≠ r) : w1.cell? a = some x := (hg.cell_far a (World.block_lt_of_cell? w _ h) ha).trans h
theorem take_next {α : Type} (l : List α) (k : Nat) (h : k < l.length) : l.take (k + 1) = l.take k ++ [l[k]] := by rw [List.take_succ_eq_append_getElem h]

end Go.Proofs.Ythcnmaapcniehaa
