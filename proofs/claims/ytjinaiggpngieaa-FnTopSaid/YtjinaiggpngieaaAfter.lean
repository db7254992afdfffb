/- Contracts: AfterPair, the program's and the reference's. -/
import Derived.Test.YtjinaiggpngieaaImg
import Derived.Test.YtjinaiggpngieaaMasks
import Derived.Test.YtjinaiggpngieaaNetOk
namespace Go.Proofs.Ytjinaiggpngieaa
open Go.RowKit
set_option linter.unusedVariables false

def AftP (n : Int) (xs : List Int) (i k : Int) : Prop := MasksP n xs ∧ (0 ≤ i ∧ i < n ∧ 0 ≤ k ∧ k < n ∧ i ≠ k)
/-- What a list becomes where p holds; else nothing. -/
noncomputable def onlyI (p : Prop) (xs : List Int) : List Int := bif tf p then xs else []
theorem onlyI_yes {p : Prop} {xs : List Int} (h : p) : onlyI p xs = xs := by unfold onlyI; rw [tf_yes h]; rfl
theorem onlyI_no {p : Prop} {xs : List Int} (h : ¬ p) : onlyI p xs = [] := by unfold onlyI; rw [tf_no h]; rfl
theorem onlyI_le {p : Prop} {xs : List Int} {m : Nat} (h : p → xs.length ≤ m) : (onlyI p xs).length ≤ m := by
  rcases Classical.em p with hp | hp
  · rw [onlyI_yes hp]; exact h hp
  · rw [onlyI_no hp]; simp
theorem pow256 {n : Int} (h : n ≤ 8) : 2 ^ n.toNat ≤ 256 := Nat.pow_le_pow_right (n := 2) (by omega) (show n.toNat ≤ 8 by omega)
theorem pow256n {N : Nat} (h : N ≤ 8) : 2 ^ N ≤ 256 := Nat.pow_le_pow_right (n := 2) (by omega) h
noncomputable def afN (n : Int) (xs : List Int) (i k : Int) : List Int := onlyI (AftP n xs i k) (imgL (2 ^ n.toNat) (mapF (fun m => stepN m i.toNat k.toNat) xs))
theorem afN_le (n : Int) (xs : List Int) (i k : Int) : (afN n xs i k).length ≤ 256 := onlyI_le fun h => by
  have h1 : n ≤ 8 := by have := h.1.1; unfold InP at this; omega
  exact Nat.le_trans (imgL_le _ _) (pow256 h1)
theorem MasksP.inM {N : Nat} {xs : List Int} (h : MasksP N xs) : InM (2 ^ N) xs := by
  intro x hx
  obtain ⟨i, hi, rfl⟩ := List.getElem_of_mem hx
  have := (h.2 i hi).1
  unfold InP at this
  rw [Int.toNat_natCast] at this
  have e : ((2 ^ N : Nat) : Int) = (2 : Int) ^ N := by simp
  rw [e]; omega
theorem GivesI.nil (w w' : World) (h : Below w.heap.size w w') : GivesI w [] (.returned (.slice none 0 0)) w' := ⟨_, rfl, ⟨Own.nil _ _ _ _, by simp⟩, h⟩

theorem one_pair (w : World) (i k : Nat) (hi : i < 8) (hk : k < 8) :
    IntSS ((w.alloc (.cells #[.int .i64 i, .int .i64 k] tInt)).alloc (.cells #[.slice (some ⟨w.heap.size, 0, none⟩) 2 2] tInts)) (.slice (some ⟨w.heap.size + 1, 0, none⟩) 1 1) (rowsOf [(i, k)]) := by
  have h := heap_alloc_new (w.alloc (.cells #[.int .i64 i, .int .i64 k] tInt)) (.cells #[.slice (some ⟨w.heap.size, 0, none⟩) 2 2] tInts)
  rw [World.size_alloc] at h
  have h0 := heap_alloc_new w (.cells #[.int .i64 i, .int .i64 k] tInt)
  have hb : Below (w.alloc (.cells #[.int .i64 i, .int .i64 k] tInt)).heap.size (w.alloc (.cells #[.int .i64 i, .int .i64 k] tInt)) ((w.alloc (.cells #[.int .i64 i, .int .i64 k] tInt)).alloc (.cells #[.slice (some ⟨w.heap.size, 0, none⟩) 2 2] tInts)) := (Below.refl _ _).alloc (Nat.le_refl _) _
  have hI : Ints (w.alloc (.cells #[.int .i64 i, .int .i64 k] tInt)) (.slice (some ⟨w.heap.size, 0, none⟩) 2 2) [(i : Int), (k : Int)] := by
    refine ⟨_, _, rfl, Nat.le_refl _, by decide, (fun h => by cases h), fun j hj => ?_⟩
    simp at hj
    refine ⟨w.heap.size, 0, .int .i64 ([(i : Int), (k : Int)].getD j 0), rfl, ?_, ?_⟩
    · unfold World.cell?; rw [h0]
      rcases j with _ | _ | j
      · rfl
      · rfl
      · omega
    · rcases j with _ | _ | j
      · exact ⟨rfl, show In64 (i : Int) from WalkArith.wf_i64 (by omega)⟩
      · exact ⟨rfl, show In64 (k : Int) from WalkArith.wf_i64 (by omega)⟩
      · omega
  refine ⟨_, _, rfl, Nat.le_refl _, by decide, (fun h => by cases h), fun j hj => ?_⟩
  have hj0 : j = 0 := by simp [rowsOf] at hj; omega
  subst hj0
  refine ⟨w.heap.size + 1, 0, .slice (some ⟨w.heap.size, 0, none⟩) 2 2, rfl, ?_, ?_⟩
  · unfold World.cell?; rw [h]; rfl
  · exact hI.keep (Below.keeps hb)

end Go.Proofs.Ytjinaiggpngieaa
