/- A network under construction: its cell, its pairs so far; a row more; the cell that the result comes out of. -/
import Derived.Test.YthcnmaapcniehaaGridApp
import Derived.Test.YthcnmaapcniehaaNetB
import Derived.Test.YthcnmaapcniehaaFill
import Derived.Test.YthcnmaapcniehaaNetOk
import Derived.Deep.RegionHeld3
import Derived.Deep.AppendLies
import Derived.Laws.ResultCell
namespace Go.Proofs.Ythcnmaapcniehaa
open Go.RowKit
set_option linter.unusedVariables false

/-- A network and a truth value come back, the rows fresh; nothing that was there has turned. -/
def GivesNB (w : World) (n : Int) (rows : List (List Int)) (b : Bool) (en : Ending) (w' : World) : Prop :=
  ∃ v, en = .returned (.tuple #[.agg #[.int .i64 n, v], .bool b]) ∧ OwnSS tInt tInts w' w.heap.size w'.heap.size v rows ∧ Below w.heap.size w w'

/-- A load under another name: the walk of a region that draws its order does not try to take it first. -/
def ldOp (t : TypeId) (x : Operand) : Op := Op.load t x
@[go_sem] theorem ldOp_eq (t : TypeId) (x : Operand) : ldOp t x = Op.load t x := rfl

/-- The network in block B: n wires, the pairs' slice u with these rows, all of it made at or behind lo. -/
def NetIn (B lo : Nat) (n : Int) (rows : List (List Int)) (wr : World) (u : Value) : Prop :=
  OwnSS tInt tInts wr lo wr.heap.size u rows ∧ wr.cell? ⟨B, 0, none⟩ = some (.int .i64 n) ∧ wr.cell? ⟨B, 1, none⟩ = some u ∧ wr.frozen? ⟨B, 1, none⟩ = false ∧ B < lo ∧ lo ≤ wr.heap.size
/-- All blocks up to lo but for block B are as they were. -/
def Kept (B lo : Nat) (W1 wr : World) : Prop := Below B W1 wr ∧ ∀ i, B < i → i < lo → wr.heap[i]? = W1.heap[i]?

theorem Kept.refl (B lo : Nat) (W : World) (h : B ≤ W.heap.size) : Kept B lo W W := ⟨Below.mono (Below.refl _ _) h, fun _ _ _ => rfl⟩
theorem Kept.block {B lo : Nat} {W1 wr : World} (h : Kept B lo W1 wr) {i : Nat} (h1 : i ≠ B) (h2 : i < lo) : wr.heap[i]? = W1.heap[i]? := by
  rcases Nat.lt_or_ge i B with h3 | h3
  · exact h.1.block i h3
  · exact h.2 i (by omega) h2
theorem Kept.cell {B lo : Nat} {W1 wr : World} (h : Kept B lo W1 wr) {a : Addr} (h1 : a.block ≠ B) (h2 : a.block < lo) : wr.cell? a = W1.cell? a := World.cell?_of_block (h.block h1 h2)
theorem Kept.frozen {B lo : Nat} {W1 wr : World} (h : Kept B lo W1 wr) {a : Addr} (h1 : a.block ≠ B) (h2 : a.block < lo) : wr.frozen? a = W1.frozen? a := World.frozen?_of_block (h.block h1 h2)
theorem Kept.drew {B lo : Nat} {W1 wr : World} (h : Kept B lo W1 wr) : Kept B lo W1 wr.drew := ⟨h.1.drew, h.2⟩

theorem NetIn.start (w : World) (n : Int) (t : TypeId) : NetIn w.heap.size (w.heap.size + 1) n [] (w.alloc (.cells #[.int .i64 n, .slice none 0 0] t)) (.slice none 0 0) := by
  refine ⟨OwnSS.nil _ _ _ _ _, ?_, ?_, ?_, by omega, by simp⟩
  · unfold World.cell?; rw [heap_alloc_new]; rfl
  · unfold World.cell?; rw [heap_alloc_new]; rfl
  · unfold World.frozen?; rw [heap_alloc_new]; rfl

/-- Nothing but new memory since: the pairs may start anew behind it where there are none yet. -/
theorem NetIn.below {B lo : Nat} {n : Int} {rows : List (List Int)} {wr w' : World} {u : Value} (h : NetIn B lo n rows wr u) (hb : Below wr.heap.size wr w') : NetIn B lo n rows w' u := by
  obtain ⟨h1, h2, h3, h4, h5, h6⟩ := h
  have hs := hb.size
  exact ⟨(h1.below hb (Nat.le_refl _)).wide (Nat.le_refl _) hs, (hb.cell (p := ⟨B, 0, none⟩) (by show B < _; omega)).trans h2, (hb.cell (p := ⟨B, 1, none⟩) (by show B < _; omega)).trans h3, (hb.frozen (p := ⟨B, 1, none⟩) (by show B < _; omega)).trans h4, h5, by omega⟩
theorem NetIn.later {B lo : Nat} {n : Int} {wr w' : World} (h : NetIn B lo n [] wr (.slice none 0 0)) (hb : Below wr.heap.size wr w') : NetIn B w'.heap.size n [] w' (.slice none 0 0) := by
  obtain ⟨h1, h2, h3, h4, h5, h6⟩ := h.below hb
  have hs := hb.size
  exact ⟨OwnSS.nil _ _ _ _ _, h2, h3, h4, by omega, Nat.le_refl _⟩

theorem NetIn.push {B lo : Nat} {n : Int} {rows : List (List Int)} {W1 wr W w' : World} {u v' row : Value} {vs : List Value} {xs : List Int} {k : Nat}
    (hO : Own tInts wr lo wr.heap.size u vs) (hR : RowsOwn tInt wr lo wr.heap.size vs rows) (cn : wr.cell? ⟨B, 0, none⟩ = some (.int .i64 n)) (cu : wr.cell? ⟨B, 1, none⟩ = some u) (cf : wr.frozen? ⟨B, 1, none⟩ = false)
    (hB : B < lo) (hlo : lo ≤ wr.heap.size) (hW : Below wr.heap.size wr W) (R : OwnI tInt W wr.heap.size W.heap.size row xs) (hk : k = (vs ++ [row]).length)
    (hown : w'.ownsRow lo tInts 1 v' k (vs ++ [row])) (hg : W.grownBy w' u.ownBlock) (hK : Kept B lo W1 wr) :
    NetIn B lo n (rows ++ [xs]) (w'.setCell ⟨B, 1, none⟩ v') v' ∧ Kept B lo W1 (w'.setCell ⟨B, 1, none⟩ v') := by
  subst hk
  have hs := hW.size
  have hs' := hg.size
  have hOW := hO.below hW (Nat.le_refl _)
  have hown' : Own tInts w' lo w'.heap.size v' (vs ++ [row]) := ⟨hown, fun g hg => (hown.lt g hg).2⟩
  have H := OwnSS.app hO hR hW R (by omega) hown' hg
  have hblk : ∀ i, i < lo → w'.heap[i]? = wr.heap[i]? := fun i hi => (hg.block i (by omega) fun e => by have := hOW.lt e.symm; omega).trans (hW.block i (by omega))
  have c0 : w'.cell? ⟨B, 0, none⟩ = some (.int .i64 n) := (World.cell?_of_block (a := ⟨B, 0, none⟩) (hblk B hB)).trans cn
  have c1 : w'.cell? ⟨B, 1, none⟩ = some u := (World.cell?_of_block (a := ⟨B, 1, none⟩) (hblk B hB)).trans cu
  have c2 : w'.frozen? ⟨B, 1, none⟩ = false := (World.frozen?_of_block (a := ⟨B, 1, none⟩) (hblk B hB)).trans cf
  refine ⟨⟨?_, ?_, ?_, ?_, hB, ?_⟩, ?_, ?_⟩
  · rw [size_setCell]; exact H.set hB _
  · rw [World.cell?_setCell_other _ _ _ _ (by simp)]; exact c0
  · exact World.cell?_setCell_same _ _ _ c1
  · rw [World.frozen?_setCell]; exact c2
  · rw [size_setCell]; omega
  · exact (below_app (hK.1.trans (hW.mono (by have := hK.1.size; omega))) hOW hg (by omega) (by omega)).setCell (Nat.le_refl _) _
  · intro i h1 h2
    rw [Below.heap_setCell _ _ _ _ (by show i ≠ B; omega), hblk i h2]
    exact hK.2 i h1 h2

/-- The cell that the result comes out of, as it was laid. -/
def ResC (R : Nat) (W : World) : Prop := W.cell? ⟨R, 0, none⟩ = some (.int .i64 0) ∧ W.cell? ⟨R, 1, none⟩ = some (.slice none 0 0) ∧ W.frozen? ⟨R, 0, none⟩ = false ∧ W.frozen? ⟨R, 1, none⟩ = false ∧ R < W.heap.size
theorem ResC.start (w : World) (t : TypeId) : ResC w.heap.size (w.alloc (.cells #[.int .i64 0, .slice none 0 0] t)) := by
  refine ⟨?_, ?_, ?_, ?_, by simp⟩
  · unfold World.cell?; rw [heap_alloc_new]; rfl
  · unfold World.cell?; rw [heap_alloc_new]; rfl
  · unfold World.frozen?; rw [heap_alloc_new]; rfl
  · unfold World.frozen?; rw [heap_alloc_new]; rfl
theorem ResC.below {R B : Nat} {W w' : World} (h : ResC R W) (hb : Below B W w') (hR : R < B) : ResC R w' := by
  have hs := hb.size
  exact ⟨(hb.cell (p := ⟨R, 0, none⟩) hR).trans h.1, (hb.cell (p := ⟨R, 1, none⟩) hR).trans h.2.1, (hb.frozen (p := ⟨R, 0, none⟩) hR).trans h.2.2.1, (hb.frozen (p := ⟨R, 1, none⟩) hR).trans h.2.2.2.1, by have := h.2.2.2.2; omega⟩
theorem OwnSS.res {w W : World} {base R lo : Nat} {rows : List (List Int)} {u x y : Value} (h : OwnSS tInt tInts W lo W.heap.size u rows) (hR : R < lo) (hb : Below base w W) (h1 : base ≤ R) :
    OwnSS tInt tInts ((W.setCell ⟨R, 0, none⟩ x).setCell ⟨R, 1, none⟩ y) base ((W.setCell ⟨R, 0, none⟩ x).setCell ⟨R, 1, none⟩ y).heap.size u rows ∧ Below base w ((W.setCell ⟨R, 0, none⟩ x).setCell ⟨R, 1, none⟩ y) := by
  refine ⟨?_, (hb.setCell h1 _).setCell h1 _⟩
  rw [size_setCell, size_setCell]
  exact ((h.set hR _).set hR _).wide (by omega) (Nat.le_refl _)

/-- The one cell of a block that was laid second, behind a draw. -/
theorem news_two (w : World) (o1 : Obj) (v : Value) (t : TypeId) : ∀ (j : Nat) (u : Value), [v][j]? = some u → (((w.alloc o1).alloc (.cells #[v] t)).drew.cell? ((⟨w.heap.size + 1, 0, none⟩ : Addr).add j) = some u) := by
  have h := heap_alloc_new (w.alloc o1) (.cells #[v] t)
  rw [World.size_alloc] at h
  exact World.news_of_block (w := ((w.alloc o1).alloc (.cells #[v] t)).drew) h
theorem news_one (w : World) (v : Value) (t : TypeId) : ∀ (j : Nat) (u : Value), [v][j]? = some u → ((w.alloc (.cells #[v] t)).cell? ((⟨w.heap.size, 0, none⟩ : Addr).add j) = some u) :=
  World.news_of_block (heap_alloc_new w (.cells #[v] t))

/-- What a region holds that puts a row more into the network: cells that it reads. -/
theorem held2_alloc {w1 : World} {o : Obj} {a b : Addr} {x y : Value} (h : w1.cell? a = some x ∧ w1.cell? b = some y) : (w1.alloc o).cell? a = some x ∧ (w1.alloc o).cell? b = some y := by
  have hb : Below w1.heap.size w1 (w1.alloc o) := (Below.refl _ w1).alloc (Nat.le_refl _) o
  exact ⟨Below.keeps hb _ _ h.1, Below.keeps hb _ _ h.2⟩
theorem held2_grown {w1 w2 : World} {r : Option Nat} (hg : w1.grownBy w2 r) {a b : Addr} {x y : Value} (h : w1.cell? a = some x ∧ w1.cell? b = some y) (ha : some a.block ≠ r) (hb : some b.block ≠ r) :
    w2.cell? a = some x ∧ w2.cell? b = some y :=
  ⟨(hg.cell_far a (World.block_lt_of_cell? w1 _ h.1) ha).trans h.1, (hg.cell_far b (World.block_lt_of_cell? w1 _ h.2) hb).trans h.2⟩
theorem held2_set {w1 : World} {a b c : Addr} {v x y : Value} (h : w1.cell? a = some x ∧ w1.cell? b = some y) (ha : c.block ≠ a.block) (hb : c.block ≠ b.block) :
    (w1.setCell c v).cell? a = some x ∧ (w1.setCell c v).cell? b = some y :=
  ⟨(World.cell?_setCell_other _ _ _ _ (fun e => ha (by rw [e]))).trans h.1, (World.cell?_setCell_other _ _ _ _ (fun e => hb (by rw [e]))).trans h.2⟩
/-- The cells A hold what they held. -/
def HeldAt (A : List (Addr × Value)) (w : World) : Prop := ∀ p ∈ A, w.cell? p.1 = some p.2
theorem HeldAt.keep {A : List (Addr × Value)} {w w' : World} (h : HeldAt A w) (hk : Below w.heap.size w w') : HeldAt A w' := fun p hp => Below.keeps hk _ _ (h p hp)
theorem HeldAt.grown {A : List (Addr × Value)} {w w' : World} {r : Option Nat} (h : HeldAt A w) (hg : w.grownBy w' r) (hA : ∀ p ∈ A, some p.1.block ≠ r) : HeldAt A w' :=
  fun p hp => (hg.cell_far _ (World.block_lt_of_cell? w _ (h p hp)) (hA p hp)).trans (h p hp)
theorem HeldAt.set {A : List (Addr × Value)} {w : World} {c : Addr} {v : Value} (h : HeldAt A w) (hA : ∀ p ∈ A, c.block ≠ p.1.block) : HeldAt A (w.setCell c v) :=
  fun p hp => (World.cell?_setCell_other _ _ _ _ (fun e => hA p hp (by rw [e]))).trans (h p hp)
/-- A cell behind new blocks and an append to another row. -/
theorem after_new {wr W w1 : World} {r : Option Nat} (hb : Below wr.heap.size wr W) (hg : W.grownBy w1 r) {a : Addr} {v : Value} (hc : wr.cell? a = some v) (hf : wr.frozen? a = false) (hne : some a.block ≠ r) :
    w1.cell? a = some v ∧ w1.frozen? a = false := by
  have hl := World.block_lt_of_cell? wr _ hc
  have hs := hb.size
  exact ⟨(hg.cell_far a (by omega) hne).trans (Below.keeps hb _ _ hc), (hg.frozen_far a (by omega) hne).trans ((hb.frozen hl).trans hf)⟩
theorem below_two (wr : World) (o1 o2 : Obj) : Below wr.heap.size wr ((wr.alloc o1).alloc o2).drew := (((Below.refl _ wr).alloc (Nat.le_refl _) o1).alloc (by simp) o2).drew
/-- The pair that was laid first of two new blocks. -/
theorem pair_two (wr : World) (a b : Int) (ha : In64 a) (hb : In64 b) (o2 : Obj) : OwnI tInt ((wr.alloc (.cells #[.int .i64 a, .int .i64 b] tInt)).alloc o2).drew wr.heap.size ((wr.alloc (.cells #[.int .i64 a, .int .i64 b] tInt)).alloc o2).drew.heap.size (.slice (some ⟨wr.heap.size, 0, none⟩) 2 2) [a, b] := by
  have F := (Fills.lit tInt wr wr.heap.size [a, b] #[.int .i64 a, .int .i64 b] rfl (Nat.le_refl _) (by simp [maxLen])).alloc o2
  have H : OwnI tInt ((wr.alloc (.cells #[.int .i64 a, .int .i64 b] tInt)).alloc o2) wr.heap.size ((wr.alloc (.cells #[.int .i64 a, .int .i64 b] tInt)).alloc o2).heap.size (.slice (some ⟨wr.heap.size, 0, none⟩) 2 2) [a, b] :=
    F.own (by simp; omega) (by intro x hx; simp at hx; rcases hx with rfl | rfl <;> assumption)
  exact H.below (B := ((wr.alloc (.cells #[.int .i64 a, .int .i64 b] tInt)).alloc o2).heap.size) ((Below.refl _ _).drew) (Nat.le_refl _)

theorem rowsOf_getD (ps : List (Nat × Nat)) (k : Nat) (h : k < ps.length) : (rowsOf ps).getD k [] = [(ps[k].1 : Int), (ps[k].2 : Int)] := by
  rw [List.getD_eq_getElem?_getD, List.getElem?_eq_getElem (by rw [rowsOf_length]; exact h), rowsOf_get ps k h]; rfl
end Go.Proofs.Ythcnmaapcniehaa
