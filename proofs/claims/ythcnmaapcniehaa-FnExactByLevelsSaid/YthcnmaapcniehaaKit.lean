/- Lemmas and words of my own that name no program: readings of slices in memory, small facts on numbers. -/
import Derived.WalkKit
import Derived.ProofKit
import Derived.OpenShut
import Derived.ShutString
import Derived.ChangeOld
import Derived.Below
import Derived.Lib.Hide
import Derived.WalkSpells
import Derived.WalkLawsBesides
namespace Go.Proofs.Ythcnmaapcniehaa
open Go.RowKit
set_option linter.unusedVariables false

theorem ret_int {k : IntKind} {a b : Int} (h : a = b) : Ending.returned (.int k a) = .returned (.int k b) := by rw [h]
theorem ret_bool {a b : Bool} (h : a = b) : Ending.returned (.bool a) = .returned (.bool b) := by rw [h]

theorem bcell {W w1 : World} (hb : Below W.heap.size W w1) : (∀ b o, b < W.heap.size → w1.cell? ⟨b, o, none⟩ = W.cell? ⟨b, o, none⟩) ∧ (∀ b o, b < W.heap.size → w1.frozen? ⟨b, o, none⟩ = W.frozen? ⟨b, o, none⟩) :=
  ⟨fun b o h => hb.cell (p := ⟨b, o, none⟩) h, fun b o h => hb.frozen (p := ⟨b, o, none⟩) h⟩

/-- An integer that fits 64 bits, with its sign. -/
def In64 (n : Int) : Prop := (Lit.int .i64 n).wf = true

/-- A statement's truth value. -/
noncomputable def tf (p : Prop) : Bool := @decide p (Classical.propDecidable p)
theorem tf_yes {p : Prop} (h : p) : tf p = true := by unfold tf; simp [h]
theorem tf_no {p : Prop} (h : ¬ p) : tf p = false := by unfold tf; simp [h]
theorem tf_congr {p q : Prop} (h : p ↔ q) : tf p = tf q := by rw [propext h]
theorem tf_dec {p : Prop} [Decidable p] : tf p = decide p := by
  by_cases h : p
  · rw [tf_yes h]; simp [h]
  · rw [tf_no h]; simp [h]
theorem tf_true {p : Prop} (h : tf p = true) : p := by
  unfold tf at h; exact @of_decide_eq_true _ (Classical.propDecidable p) h
theorem tf_false {p : Prop} (h : tf p = false) : ¬ p := fun hp => by rw [tf_yes hp] at h; cases h

theorem take_snoc (s : ByteArray) (k : Nat) (h : k < s.size) : s.data.toList.take (k + 1) = s.data.toList.take k ++ [s[k]] := by
  rw [List.take_succ_eq_append_getElem (by simpa using h)]; rfl

theorem cell_alloc0 (w : World) (u : Value) (t : TypeId) : (w.alloc (.cells #[u] t)).cell? ⟨w.heap.size, 0, none⟩ = some u := by
  have h := heap_alloc_new w (.cells #[u] t)
  unfold World.cell?
  rw [h]; rfl

end Go.Proofs.Ythcnmaapcniehaa
