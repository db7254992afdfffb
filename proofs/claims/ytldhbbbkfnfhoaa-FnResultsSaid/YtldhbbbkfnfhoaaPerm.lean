/- Contracts: isOrder, l02Perm: whether a list has each number from 0 up to n once. -/
import Derived.Test.YtldhbbbkfnfhoaaNetA
import Derived.Test.YtldhbbbkfnfhoaaNetOk
namespace Go.Proofs.Ytldhbbbkfnfhoaa
open Go.RowKit
set_option linter.unusedVariables false

def PermP (N : Nat) (xs : List Int) : Prop := xs.length = N ∧ (∀ x ∈ xs, 0 ≤ x ∧ x < N) ∧ xs.Nodup
/-- Which numbers are among the first k. -/
def seenL (N : Nat) (xs : List Int) (k : Nat) : List Value := (List.range N).map fun (i : Nat) => Value.bool (decide ((i : Int) ∈ xs.take k))
theorem seenL_zero (N : Nat) (xs : List Int) : seenL N xs 0 = List.replicate N (.bool false) := by
  apply List.ext_getElem
  · simp [seenL]
  · intro i h1 h2; simp [seenL]
theorem seenL_get (N : Nat) (xs : List Int) (k i : Nat) (h : i < N) : (seenL N xs k)[i]? = some (.bool (decide ((i : Int) ∈ xs.take k))) := by
  simp [seenL, h]
theorem take_snocI {α : Type} (l : List α) (k : Nat) (h : k < l.length) : l.take (k + 1) = l.take k ++ [l[k]] := by rw [List.take_succ_eq_append_getElem h]
theorem seenL_set (N : Nat) (xs : List Int) (k i : Nat) (hk : k < xs.length) (hx : xs[k] = (i : Int)) : (seenL N xs k).set i (.bool true) = seenL N xs (k + 1) := by
  apply List.ext_getElem
  · simp [seenL]
  · intro j h1 h2
    rw [List.getElem_set]
    simp only [seenL, List.getElem_map, List.getElem_range]
    rw [take_snocI xs k hk, hx]
    by_cases h : i = j
    · subst h; simp
    · rw [if_neg h]
      have : ¬ (j : Int) = (i : Int) := by omega
      simp [this]
def PreP (N : Nat) (xs : List Int) (k : Nat) : Prop := (∀ x ∈ xs.take k, 0 ≤ x ∧ x < N) ∧ (xs.take k).Nodup
theorem PreP.next {N : Nat} {xs : List Int} {k i : Nat} (h : PreP N xs k) (hk : k < xs.length) (hx : xs[k] = (i : Int)) (hi : i < N) (hn : ¬ (i : Int) ∈ xs.take k) : PreP N xs (k + 1) := by
  unfold PreP at *
  rw [take_snocI xs k hk, hx]
  refine ⟨fun x hx' => ?_, ?_⟩
  · rcases List.mem_append.1 hx' with h1 | h1
    · exact h.1 x h1
    · simp only [List.mem_singleton] at h1; subst h1; omega
  · rw [List.nodup_append]
    refine ⟨h.2, by simp, fun a ha b hb e => ?_⟩
    simp only [List.mem_singleton] at hb
    subst hb; subst e; exact hn ha
theorem PermP.no_twice {N : Nat} {xs : List Int} {k : Nat} (h : PermP N xs) (hk : k < xs.length) : ¬ xs[k] ∈ xs.take k := fun hm => by
  have h1 : (xs.take (k + 1)).Nodup := (List.take_sublist _ _).nodup h.2.2
  rw [take_snocI xs k hk, List.nodup_append] at h1
  exact h1.2.2 _ hm _ (List.mem_singleton.2 rfl) rfl

set_option maxHeartbeats 1600000 in
set_option maxRecDepth 100000 in
theorem isOrder (N : Nat) (v : Value) (xs : List Int) (w : World) (hI : Ints w v xs) (h1 : 1 ≤ N ∧ N ≤ 8) (hxl : xs.length ≤ 1048576) :
    Calls Try.prog 36 #[v, .int .i64 N] w (GivesB w (tf (PermP N xs))) := by
  obtain ⟨ao, cap, rfl, hcap, hmax, hnil, hcell⟩ := hI
  have HC := Lib.hid hcell; clear hcell
  unfold maxLen at hmax
  by_cases hl : xs.length = N
  · have hne : ((xs.length : Int) != (N : Int)) = false := by simp [hl]
    have HL := Lib.hid hl
    have h8 : xs.length ≤ 8 := by omega
    clear hl
    obtain ⟨i0, hi, hz0, hz1, hz2⟩ := info_parts infoBool
    go_enter Try.func36, Try.ntmps36
    go_wp2_with (at_make; refine wpList_make_full _ rfl _ _ 68 rfl w.heap.size 4 i0 (.bool false) 1 Try.underlying68 hi hz0 hz1 .i64 .i64 _ _ N rfl rfl rfl rfl ?_ ?_ ?_ ?_)
    · rw [hz2]; omega
    · unfold maxLen; omega
    · exact Nat.le_refl _
    intro w1 hown hg
    have F0 : FillsV tBool w.heap.size w.heap.size N w1 N (seenL N xs 0) := by rw [seenL_zero]; exact ⟨by simp, by simpa [toList_madeCells_one] using hown⟩
    have hb0 : Below w.heap.size w w1 := (Below.refl _ w).grown hg (Nat.le_refl _) (fun k h => by cases h)
    have hs0 : w.heap.size + 1 ≤ w1.heap.size := (hown.lt w.heap.size rfl).2
    clear hown hg hi hz0 hz1 hz2
    go_wp2
    go_loopw [16] (fun i wr => ∃ k : Nat, k ≤ xs.length ∧ i = .int .i64 k ∧ FillsV tBool w.heap.size w.heap.size N wr N (seenL N xs k) ∧ Below w.heap.size w wr ∧ w.heap.size + 1 ≤ wr.heap.size ∧ Hid (PreP N xs k)) (fun i _ => xs.length - (intOf i).toNat)
    case atStart => exact ⟨0, Nat.zero_le _, rfl, F0, hb0, hs0, ⟨by simp, by simp⟩⟩
    case round =>
      obtain ⟨k, hk, rfl, F, hb, hs, HPr⟩ := hrel
      by_cases hlt : k < xs.length
      · obtain ⟨b, q, u, rfl, hu, rfl, hwf⟩ := HC.out k hlt
        have c1 : wr.cell? ⟨b, q + k, none⟩ = some (.int .i64 xs[k]) := Below.keeps hb _ _ hu
        obtain ⟨x, HX⟩ : ∃ x, Hid (xs[k] = x) := ⟨_, Lib.hid rfl⟩
        rw [HX.out] at c1 hwf
        have hwf' := Lib.hid hwf
        clear hu hwf
        by_cases hx0 : x < 0
        · have e1 : decide (x < 0) = true := decide_eq_true hx0
          have hP : tf (PermP N xs) = false := tf_no fun h => by have := h.2.1 _ (List.getElem_mem hlt); rw [HX.out] at this; omega
          rw [hP]
          clear F
          go_wp2
          go_ret
          exact ⟨rfl, hb⟩
        · have e1 : decide (x < 0) = false := decide_eq_false hx0
          by_cases hx1 : x ≥ (N : Int)
          · have e2 : decide (x ≥ (N : Int)) = true := decide_eq_true hx1
            have hP : tf (PermP N xs) = false := tf_no fun h => by have := h.2.1 _ (List.getElem_mem hlt); rw [HX.out] at this; omega
            rw [hP]
            clear F
            go_wp2
            go_ret
            exact ⟨rfl, hb⟩
          · have e2 : decide (x ≥ (N : Int)) = false := decide_eq_false hx1
            obtain ⟨i, rfl⟩ : ∃ i : Nat, x = (i : Int) := ⟨x.toNat, by omega⟩
            have hiN : i < N := by omega
            obtain ⟨y, cs, hy⟩ := F.cell i hiN
            rw [seenL_get N xs k i hiN] at hy
            simp only [Option.some.injEq] at hy
            have cf := F.frozen i
            have hgs : w.heap.size < wr.heap.size := by omega
            rcases Classical.em ((i : Int) ∈ xs.take k) with hm | hm
            · have e : decide ((i : Int) ∈ xs.take k) = true := decide_eq_true hm
              rw [e] at hy
              subst hy
              have hP : tf (PermP N xs) = false := tf_no fun h => h.no_twice hlt (by rw [HX.out]; exact hm)
              rw [hP]
              clear F e hm
              go_wp2
              go_ret
              exact ⟨rfl, hb⟩
            · have e : decide ((i : Int) ∈ xs.take k) = false := decide_eq_false hm
              rw [e] at hy
              subst hy
              have hPr2 : Hid (PreP N xs (k + 1)) := HPr.out.next hlt HX.out hiN hm
              have R1 := F.set i (.bool true)
              rw [seenL_set N xs k i hlt HX.out] at R1
              have R3 : Below w.heap.size w (wr.setCell ⟨w.heap.size, i, none⟩ (.bool true)) := hb.setCell (Nat.le_refl _) _
              have R4 : w.heap.size + 1 ≤ (wr.setCell ⟨w.heap.size, i, none⟩ (.bool true)).heap.size := by rw [size_setCell]; exact hs
              clear F e hm
              go_wp2
              go_roundw
              case rel => exact ⟨k + 1, by omega, by go_num, R1, R3, R4, hPr2⟩
              case measure => first | (simp [intOf]; done) | (simp [intOf]; omega)
      · have hk' : k = xs.length := by omega
        have hP : tf (PermP N xs) = true := tf_yes (by
          have := HPr.out
          unfold PreP at this
          rw [List.take_of_length_le (by omega)] at this
          exact ⟨HL.out, this.1, this.2⟩)
        clear F
        go_wp2
        go_ret
        exact ⟨ret_bool hP.symm, hb⟩
  · have hne : ((xs.length : Int) != (N : Int)) = true := by simp; omega
    rw [tf_no (p := PermP N xs) (fun h => hl h.1)]
    clear hl
    go_enter Try.func36, Try.ntmps36
    go_wp2
    go_ret
    exact ⟨rfl, Below.refl _ _⟩
end Go.Proofs.Ytldhbbbkfnfhoaa
