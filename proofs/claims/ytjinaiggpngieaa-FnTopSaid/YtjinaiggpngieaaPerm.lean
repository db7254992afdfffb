/- Contracts: isOrder, l02Perm: whether a list has each number from 0 up to n once. -/
import Derived.Test.YtjinaiggpngieaaNetA
import Derived.Test.YtjinaiggpngieaaNetOk
namespace Go.Proofs.Ytjinaiggpngieaa
open Go.RowKit
set_option linter.unusedVariables false

def PermP (N : Nat) (xs : List Int) : Prop := xs.length = N ∧ (∀ x ∈ xs, 0 ≤ x ∧ x < N) ∧ xs.Nodup
/-- Which numbers are among the first k. -/
def seenL (N : Nat) (xs : List Int) (k : Nat) : List Value := (List.range N).map fun (i : Nat) => Value.bool (decide ((i : Int) ∈ xs.take k))
theorem seenL_zero (N : Nat) (xs : List Int) : seenL N xs 0 = List.replicate N (.bool false) := by
  apply List.ext_getElem
  · simp [seenL]
  · intro i h1 h2; simp [seenL]
theorem seenL_get (N : Nat) (xs : List Int) (k i : Nat) (h : i < N) : (seenL N xs k)[i]? = some (.bool (decide ((i : Int) ∈ xs.take k))) := by
  simp [seenL, h]
theorem take_snocI {α : Type} (l : List α) (k : Nat) (h : k < l.length) : l.take (k + 1) = l.take k ++ [l[k]] := by rw [List.take_succ_eq_append_getElem h]
theorem seenL_set (N : Nat) (xs : List Int) (k i : Nat) (hk : k < xs.length) (hx : xs[k] = (i : Int)) : (seenL N xs k).set i (.bool true) = seenL N xs (k + 1) := by
  apply List.ext_getElem
  · simp [seenL]
  · intro j h1 h2
    rw [List.getElem_set]
    simp only [seenL, List.getElem_map, List.getElem_range]
    rw [take_snocI xs k hk, hx]
    by_cases h : i = j
    · subst h; simp
    · rw [if_neg h]
      have : ¬ (j : Int) = (i : Int) := by omega
      simp [this]
def PreP (N : Nat) (xs : List Int) (k : Nat) : Prop := (∀ x ∈ xs.take k, 0 ≤ x ∧ x < N) ∧ (xs.take k).Nodup
theorem PreP.next {N : Nat} {xs : List Int} {k i : Nat} (h : PreP N xs k) (hk : k < xs.length) (hx : xs[k] = (i : Int)) (hi : i < N) (hn : ¬ (i : Int) ∈ xs.take k) : PreP N xs (k + 1) := by
  unfold PreP at *
  rw [take_snocI xs k hk, hx]
  refine ⟨fun x hx' => ?_, ?_⟩
  · rcases List.mem_append.1 hx' with h1 | h1
    · exact h.1 x h1
    · simp only [List.mem_singleton] at h1; subst h1; omega
  · rw [List.nodup_append]
    refine ⟨h.2, by simp, fun a ha b hb e => ?_⟩
    simp only [List.mem_singleton] at hb
    subst hb; subst e; exact hn ha
theorem PermP.no_twice {N : Nat} {xs : List Int} {k : Nat} (h : PermP N xs) (hk : k < xs.length) : ¬ xs[k] ∈ xs.take k := fun hm => by
  have h1 : (xs.take (k + 1)).Nodup := (List.take_sublist _ _).nodup h.2.2
  rw [take_snocI xs k hk, List.nodup_append] at h1
  exact h1.2.2 _ hm _ (List.mem_singleton.2 rfl) rfl

end Go.Proofs.Ytjinaiggpngieaa
