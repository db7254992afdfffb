/- CutWire's memory: the places' row, the comparators that stay, the cells that the call holds; how each step leaves them. -/
import Derived.Test.YtboimhjmkcdgdaaCutP
import Derived.Test.YtboimhjmkcdgdaaStd2
import Derived.Test.YtboimhjmkcdgdaaStd
namespace Go.Proofs.Ytboimhjmkcdgdaa
open Go.RowKit
set_option linter.unusedVariables false

/-- The places' row in block g, the comparators that stay in slice o between lo and hi, the result's cell as it was laid, the network's box. -/
def CutIn (w : World) (N g gc lo hi : Nat) (ys : List Int) (kp : List (Nat × Nat)) (wr : World) (o : Value) : Prop :=
  Fills tInt w.heap.size g gc wr N ys ∧ OwnSS tInt tInts wr lo hi o (rowsOf kp) ∧ ResC (w.heap.size + 1) wr ∧ Below w.heap.size w wr ∧ wr.cell? ⟨w.heap.size, 0, none⟩ = some (.int .i64 N) ∧ lo ≤ hi ∧ hi ≤ wr.heap.size ∧ g < lo ∧ w.heap.size + 2 ≤ g
section
variable {w : World} {N g gc lo hi : Nat} {ys : List Int} {kp : List (Nat × Nat)} {wr w' : World} {o : Value}
theorem CutIn.below (h : CutIn w N g gc lo hi ys kp wr o) (hb : Below wr.heap.size wr w') : CutIn w N g gc lo hi ys kp w' o := by
  obtain ⟨h1, h2, h3, h4, h5, h6, h7, h8, h9⟩ := h
  have hs := hb.size
  exact ⟨h1.below hb (by omega), h2.below hb (by omega), h3.below hb (by omega), h4.trans (hb.mono (by omega)), (hb.cell (p := ⟨w.heap.size, 0, none⟩) (by show w.heap.size < _; omega)).trans h5, h6, by omega, h8, h9⟩
theorem CutIn.wide (h : CutIn w N g gc lo hi ys kp wr o) : CutIn w N g gc lo wr.heap.size ys kp wr o := by
  obtain ⟨h1, h2, h3, h4, h5, h6, h7, h8, h9⟩ := h
  exact ⟨h1, h2.wide (Nat.le_refl _) h7, h3, h4, h5, by omega, Nat.le_refl _, h8, h9⟩
theorem CutIn.set1 (h : CutIn w N g gc lo hi ys kp wr o) (i : Nat) (a : Int) : CutIn w N g gc lo hi (ys.set i a) kp (wr.setCell ⟨g, i, none⟩ (.int .i64 a)) o := by
  obtain ⟨h1, h2, h3, h4, h5, h6, h7, h8, h9⟩ := h
  refine ⟨h1.set i a, h2.set h8 _, h3.low (by omega) _, h4.setCell (by show w.heap.size ≤ g; omega) _, ?_, h6, by rw [size_setCell]; exact h7, h8, h9⟩
  rw [World.cell?_setCell_other _ _ _ _ (by first | (simp; done) | (simp; omega))]; exact h5
theorem CutIn.far (h : CutIn w N g gc lo hi ys kp wr o) {b k : Nat} (hb : hi ≤ b) (x : Value) : CutIn w N g gc lo hi ys kp (wr.setCell ⟨b, k, none⟩ x) o := by
  obtain ⟨h1, h2, h3, h4, h5, h6, h7, h8, h9⟩ := h
  refine ⟨⟨h1.1, ownsRow_block h1.2 fun g' hg => ?_⟩, h2.chg (chg_setCell wr b k x) (.inl hb), h3.low (by omega) _, h4.setCell (by show w.heap.size ≤ b; omega) _, ?_, h6, by rw [size_setCell]; exact h7, h8, h9⟩
  · simp [Value.ownBlock] at hg; subst hg; exact Below.heap_setCell _ _ _ _ (by show g ≠ b; omega)
  · rw [World.cell?_setCell_other _ _ _ _ (by first | (simp; done) | (simp; omega))]; exact h5
theorem CutIn.app {vs : List Value} {a b : Int} {c2 : Obj} {v' : Value} {k : Nat} (h : CutIn w N g gc lo wr.heap.size ys kp wr o) (HO : Own tInts wr lo wr.heap.size o vs) (HR : RowsOwn tInt wr lo wr.heap.size vs (rowsOf kp)) (ha : In64 a) (hb : In64 b) (ha0 : 0 ≤ a) (hb0 : 0 ≤ b)
    (hown : w'.ownsRow lo tInts 1 v' k (vs ++ [.slice (some ⟨wr.heap.size, 0, none⟩) 2 2])) (hk : k = (vs ++ [Value.slice (some ⟨wr.heap.size, 0, none⟩) 2 2]).length)
    (hgrow : (((wr.alloc (.cells #[.int .i64 a, .int .i64 b] tInt)).alloc c2).drew).grownBy w' o.ownBlock) :
    CutIn w N g gc lo w'.heap.size ys (kp ++ [(a.toNat, b.toNat)]) w' v' := by
  obtain ⟨h1, h2, h3, h4, h5, h6, h7, h8, h9⟩ := h
  subst hk
  have P := OwnSS.app HO HR (below_two wr _ c2) (pair_two wr a b ha hb c2) h6 ⟨hown, fun g hg => (hown.lt g hg).2⟩ hgrow
  have Q : Below lo wr w' := below_app ((below_two wr _ _).mono h6) (HO.below (below_two wr _ _) (Nat.le_refl _)) hgrow (Nat.le_refl _) (by simp; omega)
  have hs := Q.size
  rw [← rowsOf_snoc kp a b ha0 hb0] at P
  exact ⟨h1.below Q h8, P, h3.below Q (by omega), h4.trans (Q.mono (by omega)), (Q.cell (p := ⟨w.heap.size, 0, none⟩) (by show w.heap.size < _; omega)).trans h5, by omega, Nat.le_refl _, h8, h9⟩
end
theorem in64_small {x : Int} (h0 : -1 ≤ x) (h1 : x ≤ 60) : In64 x := WalkArith.wf_i64 (by omega)
theorem StOk.in' {N M k : Nat} {s : List Int × Nat × List (Nat × Nat)} (h : StOk N M k s) (hN : N ≤ 8) : ∀ x ∈ s.1, In64 x := fun x hx => by
  have := h.in64 x hx; exact in64_small this.1 (by omega)
theorem cut_rows_le {p : Prop} {R : List (List Int)} (h : p → sumLenTwo R) : sumLen (nbR p R) ≤ 120 := nbR_le fun hp => by
  have h1 := sumLen_le2 R (h hp).2
  have h2 := (h hp).1
  omega
end Go.Proofs.Ytboimhjmkcdgdaa
