/- What a function returns that hands back a network and whether it could be made. -/
import Derived.Test.YthcnmaapcniehaaNetIn
namespace Go.Proofs.Ythcnmaapcniehaa
open Go.RowKit
set_option linter.unusedVariables false
/-- The network's number of wires: n where p holds. -/
noncomputable def nbN (p : Prop) (n : Int) : Int := bif tf p then n else 0
/-- The network's rows where p holds. -/
noncomputable def nbR (p : Prop) (R : List (List Int)) : List (List Int) := bif tf p then R else []
theorem nbN_yes {p : Prop} {n : Int} (h : p) : nbN p n = n := by unfold nbN; rw [tf_yes h]; rfl
theorem nbN_no {p : Prop} {n : Int} (h : ¬ p) : nbN p n = 0 := by unfold nbN; rw [tf_no h]; rfl
theorem nbR_yes {p : Prop} {R : List (List Int)} (h : p) : nbR p R = R := by unfold nbR; rw [tf_yes h]; rfl
theorem nbR_no {p : Prop} {R : List (List Int)} (h : ¬ p) : nbR p R = [] := by unfold nbR; rw [tf_no h]; rfl
theorem nbR_le {p : Prop} {R : List (List Int)} {m : Nat} (h : p → sumLen R ≤ m) : sumLen (nbR p R) ≤ m := by
  rcases Classical.em p with hp | hp
  · rw [nbR_yes hp]; exact h hp
  · rw [nbR_no hp]; simp [sumLen]
/-- No row is longer than two. -/
theorem sumLen_le2 (R : List (List Int)) (h : ∀ r ∈ R, r.length ≤ 2) : sumLen R ≤ 2 * R.length := by
  induction R with
  | nil => simp [sumLen]
  | cons r l ih =>
    have h1 := ih fun x hx => h x (List.mem_cons_of_mem _ hx)
    have h2 := h r (List.mem_cons_self ..)
    simp [sumLen] at h1 ⊢; omega
theorem NetP.two {n : Int} {rows : List (List Int)} (h : NetP n rows) : ∀ r ∈ rows, r.length ≤ 2 := fun r hr => by
  obtain ⟨i, hi, rfl⟩ := List.getElem_of_mem hr
  obtain ⟨a, b, e, _⟩ := h.2.2 i hi
  rw [e]; simp
end Go.Proofs.Ythcnmaapcniehaa
