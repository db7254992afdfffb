/- Contracts: l04Next, the reference's: the next order in lexicographic order. -/
import Derived.Test.YtldhbbbkfnfhoaaOrd
import Derived.Test.YtldhbbbkfnfhoaaFill
import Derived.RegionTactic
namespace Go.Proofs.Ytldhbbbkfnfhoaa
open Go.RowKit
set_option linter.unusedVariables false

/-- Where the falling tail begins. -/
def pivN (a : List Int) : Nat → Nat
  | 0 => 0
  | i + 1 => if a.getD i 0 > a.getD (i + 1) 0 then pivN a i else i + 1
/-- The last place that is not less than p, from k downwards. -/
def lstN (a : List Int) (p : Int) : Nat → Nat
  | 0 => 0
  | k + 1 => if a.getD (k + 1) 0 < p then lstN a p k else k + 1
/-- The last n - i numbers, the last one first. -/
def revN (a : List Int) (i : Nat) : Nat → List Int
  | 0 => []
  | d + 1 => revN a i d ++ [a.getD (a.length - 1 - d) 0]
def swN (a : List Int) (i k : Nat) : List Int := (a.set (i - 1) (a.getD k 0)).set k (a.getD (i - 1) 0)
def nextA (a : List Int) (i k : Nat) : List Int := (swN a i k).take i ++ revN (swN a i k) i (a.length - i)
/-- The next order: nothing behind the last one. -/
def nextL (a : List Int) : Option (List Int) := if pivN a (a.length - 1) = 0 then none else some (nextA a (pivN a (a.length - 1)) (lstN a (a.getD (pivN a (a.length - 1) - 1) 0) (a.length - 1)))
/-- The orders of N numbers, each but the last followed by the next. -/
def chainB : List (List Int) → Bool
  | [] => true
  | [a] => (nextL a).isNone
  | a :: b :: r => decide (nextL a = some b) && chainB (b :: r)
def okNext (N : Nat) : Bool := chainB (ords N N) && decide (ords N N ≠ []) && (ords N N).all fun a => decide (∀ k, k < N → lstN a (a.getD (pivN a (a.length - 1) - 1) 0) k ≤ k) && (decide (pivN a (a.length - 1) = 0) || decide (pivN a (a.length - 1) ≤ lstN a (a.getD (pivN a (a.length - 1) - 1) 0) (a.length - 1)))
theorem okNext_all : ∀ N : Fin 6, 1 ≤ N.val → okNext N.val = true := by decide +kernel
theorem first_ord : ∀ N : Fin 6, (ords N.val N.val).head? = some ((List.range N.val).map fun (i : Nat) => (i : Int)) := by decide +kernel
theorem revN_length (a : List Int) (i : Nat) : ∀ d, (revN a i d).length = d
  | 0 => rfl
  | d + 1 => by show (revN a i d ++ [_]).length = d + 1; rw [List.length_append, revN_length a i d]; rfl
theorem Fills.take {w : World} {lo g cap n : Nat} {ys : List Int} (F : Fills tInt lo g cap w n ys) (i : Nat) (hi : i ≤ n) (hc : n ≤ cap) (hm : cap ≤ maxLen) (hx : ∀ y ∈ ys, In64 y) : Ints w (.slice (some ⟨g, 0, none⟩) i cap) (ys.take i) := by
  have hl : (ys.take i).length = i := by rw [List.length_take, F.1]; omega
  refine ⟨some ⟨g, 0, none⟩, cap, by rw [hl], by omega, hm, by simp, ?_⟩
  intro k hk
  refine ⟨g, 0, _, rfl, by rw [Nat.zero_add]; exact F.cell k (by omega), ?_, ?_⟩
  · rw [List.getElem_take]
  · rw [List.getElem_take]; exact hx _ (List.getElem_mem _)
end Go.Proofs.Ytldhbbbkfnfhoaa
