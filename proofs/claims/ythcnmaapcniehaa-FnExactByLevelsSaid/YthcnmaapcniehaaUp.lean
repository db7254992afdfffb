/- A region that draws its order, whose operations read and whose callees hand back a value that does not hang on new memory, and make new memory at most: one walk in the text's order serves every order. On the guide's theorem for a class of worlds (wp_region_quiet). No program is named. -/
import Derived.Test.YthcnmaapcniehaaMem
import Derived.Deep.QuietTactic
import Derived.BigQuiet
namespace Go.Proofs.Ythcnmaapcniehaa
open Go.RowKit
set_option linter.unusedVariables false

/-- Some world that is w but for new blocks and draws. -/
structure UpOf (w : World) where
  to : World
  below : Below w.heap.size w to
instance (w : World) : Nonempty (UpOf w) := ⟨⟨w, Below.refl _ w⟩⟩
def up (w : World) (x : UpOf w) : World := x.to

@[simp, go_sem] theorem up_cell (w : World) (x : UpOf w) (b o : Nat) (h : b < w.heap.size) : (up w x).cell? ⟨b, o, none⟩ = w.cell? ⟨b, o, none⟩ :=
  x.below.cell (p := ⟨b, o, none⟩) h
theorem up_below (w : World) (x : UpOf w) : Below w.heap.size w (up w x) := x.below

theorem wp_region_up_lit {P : Program} {id : Nat} {Q : Exit → Act → World → Prop} {a : Act} {w : World} {l : List Oper} (hm : P.follows .mixedOrders = true) (hB : Region.lexB .any l.toArray = true)
    (h : wpQuiet P l.toArray (fun w' => ∃ x, w' = up w x) (fun a' => ∀ w', (∃ x, w' = up w x) → Q .normal a' w') l a) : (Code.region id l.toArray true).wp P Q a w :=
  wp_region_quiet (C := fun w' => ∃ x, w' = up w x) hm hB ⟨⟨w.drew, (Below.refl _ w).drew⟩, rfl⟩ (by simpa using h)

theorem up_end {P : Program} {ops : Array Oper} {C : World → Prop} {Q : Exit → Act → World → Prop} {a : Act} {w : World} (h : ∀ w', Below w.heap.size w w' → Q .normal a w') :
    wpQuiet P ops C (fun a' => ∀ w', (∃ x, w' = up w x) → Q .normal a' w') [] a := wpQuiet_nil fun w' ⟨x, hx⟩ => h w' (by rw [hx]; exact up_below w x)

theorem up_calls {P : Program} {f : FuncId} {args : Array Value} {w : World} {v : Value} {x : UpOf w}
    (h : Calls P f args (up w x) fun e w' => e = .returned v ∧ Below (up w x).heap.size (up w x) w') : Calls P f args (up w x) fun e w'' => e = .returned v ∧ ∃ y, w'' = up w y :=
  h.mono fun _ w'' ⟨he, hb⟩ => ⟨he, ⟨w'', (up_below w x).trans (hb.mono (up_below w x).size)⟩, rfl⟩

/-- A network's own box, in a later world. -/
theorem box_cells {w w1 : World} {n : Int} {v : Value} {t : TypeId} (hb : Below (w.alloc (.cells #[.int .i64 n, v] t)).heap.size (w.alloc (.cells #[.int .i64 n, v] t)) w1) :
    w1.cell? ⟨w.heap.size, 0, none⟩ = some (.int .i64 n) ∧ w1.cell? ⟨w.heap.size, 1, none⟩ = some v ∧ Below w.heap.size w w1 ∧ w.heap.size < w1.heap.size :=
  ⟨Below.keeps hb _ _ (by simp [go_sem]), Below.keeps hb _ _ (by simp [go_sem]), ((Below.refl _ _).alloc (Nat.le_refl _) _).trans (hb.mono (by simp)), by have := hb.size; simp at this; omega⟩

end Go.Proofs.Ythcnmaapcniehaa
