/- Contracts: FailingList, the program's and the reference's. -/
import Derived.Test.YtldhbbbkfnfhoaaUns2
import Derived.Test.YtldhbbbkfnfhoaaFill
namespace Go.Proofs.Ytldhbbbkfnfhoaa
open Go.RowKit
set_option linter.unusedVariables false

/-- A fresh list and a truth value come back. -/
def GivesLB (w : World) (xs : List Int) (b : Bool) (en : Ending) (w' : World) : Prop := ∃ v, en = .returned (.tuple #[v, .bool b]) ∧ OwnI tInt w' w.heap.size w'.heap.size v xs ∧ Below w.heap.size w w'
def bitN (m k : Nat) : Nat := m / 2 ^ k % 2
def onesTo (m : Nat) : Nat → Nat
  | 0 => 0
  | k + 1 => onesTo m k + bitN m k
theorem onesTo_le (m k : Nat) : onesTo m k ≤ k := by
  induction k with
  | zero => exact Nat.le_refl _
  | succ k ih => unfold onesTo; have : bitN m k < 2 := Nat.mod_lt _ (by decide); omega
def failAt (N m k : Nat) : Int := if bitN m k = 0 then (k : Int) - onesTo m k else (N : Int) - onesN m + onesTo m k
def failTo (N m k : Nat) : List Int := (List.range k).map (failAt N m)
theorem failTo_succ (N m k : Nat) : failTo N m (k + 1) = failTo N m k ++ [failAt N m k] := by simp [failTo, List.range_succ]
theorem failTo_length (N m k : Nat) : (failTo N m k).length = k := by simp [failTo]
theorem onesTo_all (N m : Nat) (hN : N ≤ 8) (hm : m < 2 ^ N) : onesTo m N = onesN m := by
  have H : ∀ N : Fin 9, ∀ m : Fin 256, m.val < 2 ^ N.val → onesTo m.val N.val = onesN m.val := by decide +kernel
  have h2 : 2 ^ N ≤ 256 := Nat.le_trans (Nat.pow_le_pow_right (by omega) hN) (by decide)
  exact H ⟨N, by omega⟩ ⟨m, by omega⟩ hm
theorem bit_ways (m k : Nat) (hm : m < 256) (hk : k < 8) :
    (bitN m k = 0 ∧ Go.bits BinOp.and IntKind.i64 ((m : Int) / 2 ^ k) 1 = 0) ∨ (bitN m k = 1 ∧ Go.bits BinOp.and IntKind.i64 ((m : Int) / 2 ^ k) 1 = 1) := by
  rw [bit_eq m k hm hk]
  unfold bitN
  have := Nat.mod_two_eq_zero_or_one (m / 2 ^ k)
  omega
theorem failAt_in (N m k : Nat) (hN : N ≤ 8) (hm : m < 2 ^ N) (hk : k ≤ N) : -8 ≤ failAt N m k ∧ failAt N m k ≤ 16 := by
  have := onesTo_le m k
  have := onesN_le m
  unfold failAt; split <;> omega
/-- FailingList finds a list. -/
def FlP (n : Int) (rows : List (List Int)) : Prop := fuN n rows ≠ -1
/-- What FailingList returns. -/
noncomputable def flN (n : Int) (rows : List (List Int)) : List Int := bif tf (FlP n rows) then failTo n.toNat (fuN n rows).toNat n.toNat else []
theorem fuN_ways (n : Int) (rows : List (List Int)) : fuN n rows = -1 ∨ ∃ N m : Nat, n = (N : Int) ∧ 1 ≤ N ∧ N ≤ 8 ∧ fuN n rows = (m : Int) ∧ m < 2 ^ N := by
  rcases Classical.em (NetP n rows) with h | h
  · have h' := h
    obtain ⟨N, rfl, _, hp⟩ := h.pairs
    rw [fuN_yes h']
    cases hb : badI N (pairsOf rows) (2 ^ N) with
    | nil => exact .inl rfl
    | cons x xs =>
      have hx := badI_nonneg (N := N) (ps := pairsOf rows) (k := 2 ^ N) (x := x) (by rw [hb]; exact List.mem_cons_self ..)
      obtain ⟨m, rfl⟩ := Int.eq_ofNat_of_zero_le hx.1
      exact .inr ⟨N, m, rfl, hp.1, hp.2.1, rfl, by exact_mod_cast hx.2⟩
  · exact .inl (fuN_no h)
theorem flN_le (n : Int) (rows : List (List Int)) : (flN n rows).length ≤ 8 := by
  unfold flN
  rcases Classical.em (FlP n rows) with h | h
  · rw [tf_yes h]; simp only [cond_true, failTo_length]
    rcases fuN_ways n rows with h1 | ⟨N, m, rfl, h1, h2, _⟩
    · exact absurd h1 h
    · omega
  · rw [tf_no h]; simp

def stF (N m b k i : Nat) : Int := if bitN m i < b ∨ (bitN m i = b ∧ i < k) then failAt N m i else 0
def cntF (N m b k : Nat) : Int := if b = 0 then (k : Int) - onesTo m k else (N : Int) - onesN m + onesTo m k
theorem getD_set' (ys : List Int) (i j : Nat) (x : Int) (h : i < ys.length) : (ys.set i x).getD j 0 = if j = i then x else ys.getD j 0 := by
  by_cases hj : j = i
  · subst hj; simp [h]
  · simp [List.getD_eq_getElem?_getD, Ne.symm hj, hj]
theorem bitN_lt (m k : Nat) : bitN m k < 2 := Nat.mod_lt _ (by decide)
theorem ext_getD {xs ys : List Int} (hl : xs.length = ys.length) (h : ∀ i, i < ys.length → xs.getD i 0 = ys.getD i 0) : xs = ys := by
  refine List.ext_getElem hl fun i h1 h2 => ?_
  have := h i h2
  rwa [List.getD_eq_getElem?_getD, List.getD_eq_getElem?_getD, List.getElem?_eq_getElem h1, List.getElem?_eq_getElem h2] at this
theorem failTo_getD (N m k i : Nat) (h : i < k) : (failTo N m k).getD i 0 = failAt N m i := by
  rw [List.getD_eq_getElem?_getD, List.getElem?_eq_getElem (by rw [failTo_length]; exact h)]
  simp [failTo]

end Go.Proofs.Ytldhbbbkfnfhoaa
