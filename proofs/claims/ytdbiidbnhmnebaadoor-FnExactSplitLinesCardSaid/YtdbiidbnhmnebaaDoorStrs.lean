/- Contracts of the laws' helpers on slices of strings: szStringS, toStringS, eqStringS. -/
import Derived.Test.YtdbiidbnhmnebaaDoorBase
import Derived.Test.YtdbiidbnhmnebaaDoorGrid
namespace Go.Proofs.YtdbiidbnhmnebaaDoor
open Go.RowKit
set_option linter.unusedVariables false

def sumSize (xs : List ByteArray) : Nat := (xs.map ByteArray.size).sum
theorem sumSize_take_succ (xs : List ByteArray) (k : Nat) (h : k < xs.length) : sumSize (xs.take (k + 1)) = sumSize (xs.take k) + xs[k].size := by
  unfold sumSize; rw [List.take_succ_eq_append_getElem h, List.map_append, List.sum_append]; simp
theorem size_le_sumSize (xs : List ByteArray) (k : Nat) (h : k < xs.length) : sumSize (xs.take k) + xs[k].size ≤ sumSize xs := by
  rw [← sumSize_take_succ xs k h]
  unfold sumSize
  conv => rhs; rw [← List.take_append_drop (k + 1) xs, List.map_append, List.sum_append]
  omega
def szT (xs : List ByteArray) (left : Int) : Int := if ((xs.length + sumSize xs : Nat) : Int) ≤ left then left - (xs.length + sumSize xs : Nat) else -1

/-- A fresh slice of strings comes back; nothing that was there has turned. -/
def GivesSs (w : World) (xs : List ByteArray) (en : Ending) (w' : World) : Prop := ∃ v, en = .returned v ∧ OwnS tStr w' w.heap.size w'.heap.size v xs ∧ Below w.heap.size w w'

set_option maxHeartbeats 400000 in
theorem eqStringS_yes (v1 v2 : Value) (xs : List ByteArray) (w : World) (h1 : Strs w v1 xs) (h2 : Strs w v2 xs) :
    Calls Tryd.prog 10 #[v1, v2] w (GivesB w true) := by
  obtain ⟨ao, cap, rfl, hcap, hmax, hnil, hcell⟩ := h1
  obtain ⟨ao2, cap2, rfl, hcap2, hmax2, hnil2, hcell2⟩ := h2
  have HC := Lib.hid hcell; clear hcell
  have HC2 := Lib.hid hcell2; clear hcell2
  unfold maxLen at hmax hmax2
  have hne : ((xs.length : Int) != (xs.length : Int)) = false := by simp
  go_enter Tryd.func10, Tryd.ntmps10
  go_wp2
  go_loopw [5] (fun i wr => ∃ k : Nat, k ≤ xs.length ∧ i = .int .i64 k ∧ Below w.heap.size w wr) (fun i _ => xs.length - (intOf i).toNat)
  case atStart => exact ⟨0, Nat.zero_le _, rfl, Below.refl _ _⟩
  case round =>
    obtain ⟨k, hk, rfl, hb⟩ := hrel
    by_cases hlt : k < xs.length
    · obtain ⟨b, o, u, rfl, hu, rfl, hwf⟩ := HC.out k hlt
      obtain ⟨b2, o2, u2, rfl, hu2, rfl, hwf2⟩ := HC2.out k hlt
      have c1 : wr.cell? ⟨b, o + k, none⟩ = some (.string xs[k]) := Below.keeps hb _ _ hu
      have c2 : wr.cell? ⟨b2, o2 + k, none⟩ = some (.string xs[k]) := Below.keeps hb _ _ hu2
      clear hu hu2 hwf hwf2
      generalize xs[k] = s at *
      go_wp2
      go_quiet (fail)
      go_wp2
      go_roundw
      case rel => exact ⟨k + 1, by omega, by go_num, below_drewN hb _⟩
      case measure => simp [intOf]; omega
    · go_wp2
      go_ret
      exact ⟨rfl, hb⟩
end Go.Proofs.YtdbiidbnhmnebaaDoor
