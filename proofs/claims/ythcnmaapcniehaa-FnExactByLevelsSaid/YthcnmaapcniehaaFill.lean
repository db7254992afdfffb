/- Readings of a fresh row that is written cell by cell. -/
import Derived.Test.YthcnmaapcniehaaSlice
import Derived.Test.YthcnmaapcniehaaGrid
namespace Go.Proofs.Ythcnmaapcniehaa
open Go.RowKit
set_option linter.unusedVariables false

theorem Fills.own {wr : World} {lo hi g cap n : Nat} {ys : List Int} (F : Fills tInt lo g cap wr n ys) (h1 : g < hi) (hx : ∀ x ∈ ys, In64 x) : OwnI tInt wr lo hi (.slice (some ⟨g, 0, none⟩) n cap) ys := by
  obtain ⟨hl, F⟩ := F
  subst hl
  exact ⟨⟨by simpa using F, fun g' hg => by simp [Value.ownBlock] at hg; omega⟩, hx⟩
theorem Fills.getD {wr : World} {lo g cap n : Nat} {ys : List Int} (F : Fills tInt lo g cap wr n ys) (k : Nat) (hk : k < n) : wr.cell? ⟨g, k, none⟩ = some (.int .i64 (ys.getD k 0)) := by
  rw [F.cell k hk]; simp [show k < ys.length by rw [F.1]; exact hk]
theorem fills_zero {w1 : World} {base g cap n : Nat} (h : w1.ownsRow base tInt 1 (.slice (some ⟨g, 0, none⟩) n cap) n (List.replicate n (.int .i64 0))) : Fills tInt base g cap w1 n (List.replicate n 0) :=
  ⟨by simp, by simpa using h⟩
theorem Fills.below {e : TypeId} {base g cap n : Nat} {wr w' : World} {ys : List Int} (F : Fills e base g cap wr n ys) {B : Nat} (hb : Below B wr w') (hg : g < B) : Fills e base g cap w' n ys :=
  ⟨F.1, ownsRow_block F.2 fun g' h => by simp [Value.ownBlock] at h; subst h; exact hb.block _ hg⟩
theorem Fills.lit (e : TypeId) (w : World) (lo : Nat) (xs : List Int) (us : Array Value) (hu : us.toList = xs.map (Value.int .i64)) (hlo : lo ≤ w.heap.size) (hm : xs.length ≤ maxLen) : Fills e lo w.heap.size xs.length (w.alloc (.cells us e)) xs.length xs := by
  have hs : us.size = xs.length := by rw [← Array.length_toList, hu, List.length_map]
  exact ⟨rfl, by simp, .inr ⟨w.heap.size, xs.length, us, rfl, hlo, heap_alloc_new w _, Nat.le_refl _, hm, by omega, by rw [hu]; exact List.take_of_length_le (by simp)⟩⟩
theorem Fills.alloc {e : TypeId} {base g cap n : Nat} {wr : World} {ys : List Int} (F : Fills e base g cap wr n ys) (o : Obj) : Fills e base g cap (wr.alloc o) n ys := ⟨F.1, F.2.alloc o⟩
theorem Fills.getD' {e : TypeId} {wr : World} {lo g cap n : Nat} {ys : List Int} (F : Fills e lo g cap wr n ys) (k : Nat) (hk : k < n) : wr.cell? ⟨g, k, none⟩ = some (.int .i64 (ys.getD k 0)) := by
  rw [F.cell k hk]; simp [show k < ys.length by rw [F.1]; exact hk]
end Go.Proofs.Ythcnmaapcniehaa
