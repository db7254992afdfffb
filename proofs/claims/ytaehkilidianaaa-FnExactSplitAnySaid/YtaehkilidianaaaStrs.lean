/- Contracts of the laws' helpers on slices of strings: szStringS, toStringS, eqStringS. -/
import Derived.Test.YtaehkilidianaaaBase
import Derived.Test.YtaehkilidianaaaGrid
namespace Go.Proofs.Ytaehkilidianaaa
open Go.RowKit
set_option linter.unusedVariables false

def sumSize (xs : List ByteArray) : Nat := (xs.map ByteArray.size).sum
theorem sumSize_take_succ (xs : List ByteArray) (k : Nat) (h : k < xs.length) : sumSize (xs.take (k + 1)) = sumSize (xs.take k) + xs[k].size := by
  unfold sumSize; rw [List.take_succ_eq_append_getElem h, List.map_append, List.sum_append]; simp
theorem size_le_sumSize (xs : List ByteArray) (k : Nat) (h : k < xs.length) : sumSize (xs.take k) + xs[k].size ≤ sumSize xs := by
  rw [← sumSize_take_succ xs k h]
  unfold sumSize
  conv => rhs; rw [← List.take_append_drop (k + 1) xs, List.map_append, List.sum_append]
  omega
def szT (xs : List ByteArray) (left : Int) : Int := if ((xs.length + sumSize xs : Nat) : Int) ≤ left then left - (xs.length + sumSize xs : Nat) else -1

/-- A fresh slice of strings comes back; nothing that was there has turned. -/
def GivesSs (w : World) (xs : List ByteArray) (en : Ending) (w' : World) : Prop := ∃ v, en = .returned v ∧ OwnS tStr w' w.heap.size w'.heap.size v xs ∧ Below w.heap.size w w'

set_option maxHeartbeats 400000 in
theorem szStringS (v : Value) (xs : List ByteArray) (left : Int) (w : World) (h : Strs w v xs) (h0 : 0 ≤ left) (h1 : left ≤ 1048576) :
    Calls Try.prog 5 #[v, .int .i64 left] w (GivesN w (szT xs left)) := by
  obtain ⟨ao, cap, rfl, hcap, hmax, hnil, hcell⟩ := h
  have HC := Lib.hid hcell; clear hcell
  unfold maxLen at hmax
  by_cases hle : (xs.length : Int) ≤ left
  · go_enter Try.func5, Try.ntmps5
    go_wp2
    go_loop [1, 5] (fun q i => ∃ k : Nat, k ≤ xs.length ∧ i = .int .i64 k ∧ ∃ l : Int, q = .int .i64 l ∧ 0 ≤ l ∧ l ≤ left ∧ Hid (l = left - xs.length - sumSize (xs.take k))) (fun _ i => xs.length - (intOf i).toNat)
    case atStart => exact ⟨0, Nat.zero_le _, rfl, _, rfl, by omega, by omega, by show _ = _; simp [sumSize]⟩
    case round =>
      obtain ⟨k, hk, rfl, l, rfl, hl0, hl1, HL⟩ := hrel
      by_cases hlt : k < xs.length
      · obtain ⟨b, o, u, rfl, hu, rfl, hwf⟩ := HC.out k hlt
        have hs := Lib.hid (sumSize_take_succ xs k hlt)
        have hle2 := size_le_sumSize xs k hlt
        unfold maxLen at hwf
        by_cases hx : (xs[k].size : Int) ≤ l
        · go_wp2
          go_round
          case rel => exact ⟨k + 1, by omega, by go_num, _, rfl, by omega, by omega, by have := HL.out; have := hs.out; show _ = _; omega⟩
          case measure => simp [intOf]; omega
        · have HF : Hid (szT xs left = -1) := by
            show _ = _; unfold szT
            rw [if_neg]
            have := HL.out; omega
          go_wp2
          go_ret
          exact ⟨ret_int HF.out.symm, Below.refl _ _⟩
      · have HF : Hid (szT xs left = l) := by
          show _ = _; unfold szT
          have := HL.out; rw [List.take_of_length_le (by omega)] at this
          rw [if_pos (by omega)]; omega
        go_wp2
        go_ret
        exact ⟨ret_int HF.out.symm, Below.refl _ _⟩
  · have HF : Hid (szT xs left = -1) := by
      show _ = _; unfold szT; rw [if_neg (by omega)]
    go_enter Try.func5, Try.ntmps5
    go_wp2
    go_ret
    exact ⟨ret_int HF.out.symm, Below.refl _ _⟩

set_option maxHeartbeats 400000 in
theorem toStringS (v : Value) (xs : List ByteArray) (w : World) (h : Strs w v xs) (hn : xs.length ≤ 1048576) :
    Calls Try.prog 7 #[v] w (GivesSs w xs) := by
  obtain ⟨ao, cap, rfl, hcap, hmax, hnil, hcell⟩ := h
  have HC := Lib.hid hcell; clear hcell
  obtain ⟨i0, hi, hz0, hz1, hz2⟩ := info_parts infoStr
  go_enter Try.func7, Try.ntmps7
  go_wp2_with (at_make; refine wpList_make_full _ rfl _ _ 22 rfl w.heap.size 9 i0 (.string ByteArray.empty) 1 Try.underlying22 hi hz0 hz1 .i64 .i64 _ _ xs.length rfl rfl rfl rfl ?_ ?_ ?_ ?_)
  · rw [hz2]; omega
  · unfold maxLen; omega
  · exact Nat.le_refl _
  intro w1 hown hg
  have F0 : FillsV tStr w.heap.size w.heap.size xs.length w1 xs.length (List.replicate xs.length (.string ByteArray.empty)) := ⟨by simp, by simpa [toList_madeCells_one] using hown⟩
  have hb0 : Below w.heap.size w w1 := (Below.refl _ w).grown hg (Nat.le_refl _) (fun k h => by cases h)
  have hs0 : w.heap.size + 1 ≤ w1.heap.size := (hown.lt w.heap.size rfl).2
  clear hown hg hi hz0 hz1 hz2
  go_wp2
  go_loopw [4] (fun i wr => ∃ k : Nat, k ≤ xs.length ∧ i = .int .i64 k ∧ ∃ us : List Value, FillsV tStr w.heap.size w.heap.size xs.length wr xs.length us ∧ Hid (us.take k = (xs.map Value.string).take k) ∧ Below w.heap.size w wr ∧ w.heap.size + 1 ≤ wr.heap.size) (fun i _ => xs.length - (intOf i).toNat)
  case atStart => exact ⟨0, Nat.zero_le _, rfl, _, F0, rfl, hb0, hs0⟩
  case round =>
    obtain ⟨k, hk, rfl, us, F, HT, hb, hs⟩ := hrel
    by_cases hlt : k < xs.length
    · obtain ⟨b, o, u, rfl, hu, rfl, hwf⟩ := HC.out k hlt
      have c1 : wr.cell? ⟨b, o + k, none⟩ = some (.string xs[k]) := Below.keeps hb _ _ hu
      obtain ⟨z, c2, _⟩ := F.cell k hlt
      have c3 := F.frozen k
      have hus : us.length = xs.length := F.1
      clear hu hwf
      have R1 := F.set k (.string xs[k])
      have R2 : Hid ((us.set k (.string xs[k])).take (k + 1) = (xs.map Value.string).take (k + 1)) := by
        show _ = _
        rw [take_set' us k _ (by omega), HT.out, List.take_succ_eq_append_getElem (by simp; exact hlt)]
        simp
      have R3 : Below w.heap.size w (wr.setCell ⟨w.heap.size, k, none⟩ (.string xs[k])) := hb.setCell (Nat.le_refl _) _
      have R4 : w.heap.size + 1 ≤ (wr.setCell ⟨w.heap.size, k, none⟩ (.string xs[k])).heap.size := by rw [size_setCell]; exact hs
      clear F HT
      go_wp2
      go_roundw
      case rel => exact ⟨k + 1, by omega, by go_num, _, R1, R2, R3, R4⟩
      case measure => simp [intOf]; omega
    · have hk' : k = xs.length := by omega
      have R : OwnS tStr wr w.heap.size wr.heap.size (.slice (some ⟨w.heap.size, 0, none⟩) xs.length xs.length) xs := by
        have e : us = xs.map Value.string := by
          have := HT.out
          rwa [hk', List.take_of_length_le (by rw [F.1]; exact Nat.le_refl _), List.take_of_length_le (by simp)] at this
        subst e
        refine ⟨⟨by simpa using F.2, fun g hg => by simp [Value.ownBlock] at hg; omega⟩, fun x hx => ?_⟩
        obtain ⟨j, hj, rfl⟩ := List.getElem_of_mem hx
        obtain ⟨_, _, _, _, _, _, h⟩ := HC.out j hj
        exact h
      clear HT F
      go_wp2
      go_ret
      exact ⟨_, rfl, R, hb⟩

set_option maxHeartbeats 400000 in
theorem eqStringS_yes (v1 v2 : Value) (xs : List ByteArray) (w : World) (h1 : Strs w v1 xs) (h2 : Strs w v2 xs) :
    Calls Try.prog 9 #[v1, v2] w (GivesB w true) := by
  obtain ⟨ao, cap, rfl, hcap, hmax, hnil, hcell⟩ := h1
  obtain ⟨ao2, cap2, rfl, hcap2, hmax2, hnil2, hcell2⟩ := h2
  have HC := Lib.hid hcell; clear hcell
  have HC2 := Lib.hid hcell2; clear hcell2
  unfold maxLen at hmax hmax2
  have hne : ((xs.length : Int) != (xs.length : Int)) = false := by simp
  go_enter Try.func9, Try.ntmps9
  go_wp2
  go_loopw [5] (fun i wr => ∃ k : Nat, k ≤ xs.length ∧ i = .int .i64 k ∧ Below w.heap.size w wr) (fun i _ => xs.length - (intOf i).toNat)
  case atStart => exact ⟨0, Nat.zero_le _, rfl, Below.refl _ _⟩
  case round =>
    obtain ⟨k, hk, rfl, hb⟩ := hrel
    by_cases hlt : k < xs.length
    · obtain ⟨b, o, u, rfl, hu, rfl, hwf⟩ := HC.out k hlt
      obtain ⟨b2, o2, u2, rfl, hu2, rfl, hwf2⟩ := HC2.out k hlt
      have c1 : wr.cell? ⟨b, o + k, none⟩ = some (.string xs[k]) := Below.keeps hb _ _ hu
      have c2 : wr.cell? ⟨b2, o2 + k, none⟩ = some (.string xs[k]) := Below.keeps hb _ _ hu2
      clear hu hu2 hwf hwf2
      generalize xs[k] = s at *
      go_wp2
      go_quiet (fail)
      go_wp2
      go_roundw
      case rel => exact ⟨k + 1, by omega, by go_num, below_drewN hb _⟩
      case measure => simp [intOf]; omega
    · go_wp2
      go_ret
      exact ⟨rfl, hb⟩
end Go.Proofs.Ytaehkilidianaaa
