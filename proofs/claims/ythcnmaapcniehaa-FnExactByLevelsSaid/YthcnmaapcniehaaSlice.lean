/- Contracts of the laws' helpers on slices of integers: toIntS, eqIntS, markIntS, heldIntS. -/
import Derived.Test.YthcnmaapcniehaaBase
namespace Go.Proofs.Ythcnmaapcniehaa
open Go.RowKit
set_option linter.unusedVariables false

theorem take_set {α : Type} (xs ys : List α) (k : Nat) (hl : ys.length = xs.length) (h : k < xs.length) (hp : ys.take k = xs.take k) : (ys.set k (xs[k])).take (k + 1) = xs.take (k + 1) := by
  rw [List.take_succ_eq_append_getElem (by simp; omega), List.take_succ_eq_append_getElem h, List.getElem_set_self, List.take_set_of_le (Nat.le_refl _), hp]

/-- A row of integers at the head of block g, known to have n cells: what a loop that fills it carries. -/
def Fills (e : TypeId) (base g cap : Nat) (wr : World) (n : Nat) (ys : List Int) : Prop :=
  ys.length = n ∧ wr.ownsRow base e 1 (.slice (some ⟨g, 0, none⟩) n cap) n (ys.map (Value.int .i64))

section
variable {e : TypeId} {base g cap : Nat} {wr : World} {n : Nat} {ys : List Int}
theorem Fills.cell (h : Fills e base g cap wr n ys) (k : Nat) (hk : k < n) : wr.cell? ⟨g, k, none⟩ = some (.int .i64 (ys[k]'(by rw [h.1]; exact hk))) := by
  rw [h.2.cellAt k (by omega)]; simp [h.1, hk]
theorem Fills.frozen (h : Fills e base g cap wr n ys) (k : Nat) : wr.frozen? ⟨g, k, none⟩ = false := h.2.frozenAt k
theorem Fills.set (h : Fills e base g cap wr n ys) (k : Nat) (x : Int) : Fills e base g cap (wr.setCell ⟨g, k, none⟩ (.int .i64 x)) n (ys.set k x) := by
  refine ⟨by simp [h.1], ?_⟩
  have := (h.2.stored k (.int .i64 x)).1
  simpa [List.map_set] using this
end

theorem Chg.setCell {lo hi : Nat} {w wr : World} (h : Chg lo hi w wr) {g k : Nat} (h1 : lo ≤ g) (h2 : g < hi) (u : Value) : Chg lo hi w (wr.setCell ⟨g, k, none⟩ u) :=
  ⟨h.os, h.tape, h.output, by simpa [World.setCell] using h.size, fun i hi' ho => by rw [Below.heap_setCell _ _ _ _ (by show i ≠ g; omega)]; exact h.block i hi' ho⟩
theorem Chg.refl (lo hi : Nat) (w : World) : Chg lo hi w w := ⟨rfl, rfl, rfl, Nat.le_refl _, fun _ _ _ => rfl⟩

set_option maxHeartbeats 400000 in
theorem toIntS (v : Value) (xs : List Int) (w : World) (h : Ints w v xs) (hn : xs.length ≤ 1048576) :
    Calls Try.prog 29 #[v] w (GivesI w xs) := by
  obtain ⟨ao, cap, rfl, hcap, hmax, hnil, hcell⟩ := h
  have HC := Lib.hid hcell; clear hcell
  obtain ⟨i0, hi, hz0, hz1, hz2⟩ := info_parts infoInt
  go_enter Try.func29, Try.ntmps29
  go_wp2_with (at_make; refine wpList_make_full _ rfl _ _ 35 rfl w.heap.size 3 i0 (.int .i64 0) 1 Try.underlying35 hi hz0 hz1 .i64 .i64 _ _ xs.length rfl rfl rfl rfl ?_ ?_ ?_ ?_)
  · rw [hz2]; omega
  · unfold maxLen; omega
  · exact Nat.le_refl _
  intro w1 hown hg
  have F0 : Fills tInt w.heap.size w.heap.size xs.length w1 xs.length (List.replicate xs.length 0) := ⟨by simp, by simpa [toList_madeCells_one] using hown⟩
  have hb0 : Below w.heap.size w w1 := (Below.refl _ w).grown hg (Nat.le_refl _) (fun k h => by cases h)
  have hs0 : w.heap.size < w1.heap.size := (hown.lt w.heap.size rfl).2
  clear hown hg hi hz0 hz1 hz2
  go_wp2
  go_loopw [4] (fun i wr => ∃ k : Nat, k ≤ xs.length ∧ i = .int .i64 k ∧ ∃ ys : List Int, Fills tInt w.heap.size w.heap.size xs.length wr xs.length ys ∧ Hid (ys.take k = xs.take k) ∧ Below w.heap.size w wr ∧ w.heap.size < wr.heap.size) (fun i _ => xs.length - (intOf i).toNat)
  case atStart => exact ⟨0, Nat.zero_le _, rfl, _, F0, rfl, hb0, hs0⟩
  case round =>
    obtain ⟨k, hk, rfl, ys, F, HT, hb, hs⟩ := hrel
    by_cases hlt : k < xs.length
    · obtain ⟨b, o, u, rfl, hu, rfl, hwf⟩ := HC.out k hlt
      have c1 : wr.cell? ⟨b, o + k, none⟩ = some (.int .i64 xs[k]) := Below.keeps hb _ _ hu
      obtain ⟨z, c2⟩ : ∃ z, wr.cell? ⟨w.heap.size, k, none⟩ = some (.int .i64 z) := ⟨_, F.cell k hlt⟩
      have c3 := F.frozen k
      clear hu hwf
      have R1 := F.set k xs[k]
      have R2 : Hid ((ys.set k xs[k]).take (k + 1) = xs.take (k + 1)) := take_set xs ys k F.1 hlt HT.out
      have R3 : Below w.heap.size w (wr.setCell ⟨w.heap.size, k, none⟩ (.int .i64 xs[k])) := hb.setCell (Nat.le_refl _) _
      clear F HT
      go_wp2
      go_roundw
      case rel => exact ⟨k + 1, by omega, by go_num, _, R1, R2, R3, by simpa [World.setCell] using hs⟩
      case measure => simp [intOf]; omega
    · have hk' : k = xs.length := by omega
      have R : OwnI tInt wr w.heap.size wr.heap.size (.slice (some ⟨w.heap.size, 0, none⟩) xs.length xs.length) xs := by
        have e : ys = xs := by have := HT.out; rwa [hk', List.take_length, List.take_of_length_le (by rw [F.1]; exact Nat.le_refl _)] at this
        subst e
        refine ⟨⟨by simpa using F.2, fun g hg => by simp [Value.ownBlock] at hg; omega⟩, fun x hx => ?_⟩
        obtain ⟨j, hj, rfl⟩ := List.getElem_of_mem hx
        obtain ⟨_, _, _, _, _, _, h⟩ := HC.out j hj
        exact h
      clear HT F
      go_wp2
      go_ret
      exact ⟨_, rfl, R, hb⟩

def EqI (xs ys : List Int) : Prop := xs = ys
theorem take_no {α : Type} {xs ys : List α} {k : Nat} (h1 : k < xs.length) (h2 : k < ys.length) (h : xs[k] ≠ ys[k]) : xs ≠ ys := fun e => by subst e; exact h rfl

set_option maxHeartbeats 400000 in
theorem eqIntS_q (v1 v2 : Value) (xs ys : List Int) (w : World) (h1 : Ints w v1 xs) (h2 : Ints w v2 ys) :
    Calls Try.prog 34 #[v1, v2] w fun e w' => e = .returned (.bool (tf (xs = ys))) ∧ ∃ n, w' = w.drewN n := by
  obtain ⟨ao, cap, rfl, hcap, hmax, hnil, hcell⟩ := h1
  obtain ⟨ao2, cap2, rfl, hcap2, hmax2, hnil2, hcell2⟩ := h2
  have HC := Lib.hid hcell; clear hcell
  have HC2 := Lib.hid hcell2; clear hcell2
  unfold maxLen at hmax hmax2
  by_cases hl : xs.length = ys.length
  · have HL := Lib.hid hl
    have hne : ((xs.length : Int) != (ys.length : Int)) = false := by simp [hl]
    clear hl
    go_enter Try.func34, Try.ntmps34
    go_wp2
    go_loopw [5] (fun i wr => ∃ k : Nat, k ≤ xs.length ∧ i = .int .i64 k ∧ Hid (xs.take k = ys.take k) ∧ ∃ n, Hid (wr = w.drewN n)) (fun i _ => xs.length - (intOf i).toNat)
    case atStart => exact ⟨0, Nat.zero_le _, rfl, rfl, 0, rfl⟩
    case round =>
      obtain ⟨k, hk, rfl, HT, n, HW⟩ := hrel
      by_cases hlt : k < xs.length
      · have hlt2 : k < ys.length := by have := HL.out; omega
        obtain ⟨b, o, u, rfl, hu, rfl, hwf⟩ := HC.out k hlt
        obtain ⟨b2, o2, u2, rfl, hu2, rfl, hwf2⟩ := HC2.out k hlt2
        have c1 : wr.cell? ⟨b, o + k, none⟩ = some (.int .i64 xs[k]) := by rw [HW.out]; exact hu
        have c2 : wr.cell? ⟨b2, o2 + k, none⟩ = some (.int .i64 ys[k]) := by rw [HW.out]; exact hu2
        clear hu hu2 hwf hwf2
        by_cases he : xs[k] = ys[k]
        · have hb : (xs[k] != ys[k]) = false := by simp [he]
          have R : Hid (xs.take (k + 1) = ys.take (k + 1)) := by
            show _ = _
            rw [List.take_succ_eq_append_getElem hlt, List.take_succ_eq_append_getElem hlt2, he, HT.out]
          clear he
          go_wp2
          go_quiet (fail)
          go_wp2
          go_roundw
          case rel => exact ⟨k + 1, by omega, by go_num, R, _, by rw [HW.out]; exact World.drewN_drewN _ _ _⟩
          case measure => simp [intOf]; omega
        · have hb : (xs[k] != ys[k]) = true := by simp [he]
          have R := Lib.hid (tf_no (p := xs = ys) (take_no hlt hlt2 he))
          clear he
          go_wp2
          go_quiet (fail)
          go_wp2
          go_ret
          exact ⟨ret_bool (by rw [R.out]), _, by rw [HW.out]; exact World.drewN_drewN _ _ _⟩
      · have R := Lib.hid (tf_yes (p := xs = ys) (by have := HT.out; rw [List.take_of_length_le (by omega), List.take_of_length_le (by have := HL.out; omega)] at this; exact this))
        go_wp2
        go_ret
        exact ⟨ret_bool (by rw [R.out]), _, HW.out⟩
  · have hne : ((xs.length : Int) != (ys.length : Int)) = true := by simp; omega
    have R := Lib.hid (tf_no (p := xs = ys) fun e => hl (by rw [e]))
    clear hl
    go_enter Try.func34, Try.ntmps34
    go_wp2
    go_ret
    exact ⟨ret_bool (by rw [R.out]), 0, rfl⟩

theorem eqIntS (v1 v2 : Value) (xs ys : List Int) (w : World) (h1 : Ints w v1 xs) (h2 : Ints w v2 ys) : Calls Try.prog 34 #[v1, v2] w (GivesB w (tf (xs = ys))) :=
  (eqIntS_q v1 v2 xs ys w h1 h2).mono fun e w' ⟨he, n, hw⟩ => ⟨he, by rw [hw]; exact below_drewN (Below.refl _ _) n⟩

/-- The numbers that a marking lays: k, k + 1, .. -/
def marks (k : Int) (n : Nat) : List Int := (List.range n).map fun i => k + (i : Nat)
theorem marks_length (k : Int) (n : Nat) : (marks k n).length = n := by simp [marks]
theorem marks_get (k : Int) (n i : Nat) (h : i < (marks k n).length) : (marks k n)[i] = k + (i : Nat) := by simp [marks]

set_option maxHeartbeats 400000 in
theorem markIntS (lo hi : Nat) (v : Value) (xs : List Int) (k : Int) (w : World) (h : OwnI tInt w lo hi v xs) (h0 : 0 ≤ k) (h1 : k + xs.length ≤ 4611686018427387904) :
    Calls Try.prog 35 #[v, .int .i64 k] w fun e w' => e = .returned (.int .i64 (k + xs.length)) ∧ OwnI tInt w' lo hi v (marks k xs.length) ∧ Chg lo hi w w' := by
  rcases h.1.cases with ⟨rfl, hx⟩ | ⟨g, cap, rfl, hc1, hc2, hlo, hhi, hsz, hown, hcell, hfz⟩
  · have hx' : xs = [] := List.map_eq_nil_iff.1 hx
    subst hx'
    go_enter Try.func35, Try.ntmps35
    go_wp2
    go_loop [1, 5] (fun q i => i = .int .i64 0 ∧ q = .int .i64 k) (fun _ i => 0)
    case atStart => exact ⟨rfl, rfl⟩
    case round =>
      obtain ⟨rfl, rfl⟩ := hrel
      go_wp2
      go_ret
      exact ⟨by simp, ⟨h.1, fun x hx => by simp [marks] at hx⟩, Chg.refl _ _ _⟩
  · have hn : (xs.map (Value.int .i64)).length = xs.length := by simp
    obtain ⟨n, Hn⟩ : ∃ n, Hid (xs.length = n) := ⟨_, rfl⟩
    have F0 : Fills tInt lo g cap w n xs := ⟨Hn.out, by rw [hn, Hn.out] at hown; exact hown⟩
    rw [hn, Hn.out] at hc1 ⊢
    rw [Hn.out] at h1
    clear hn hown hcell hfz h
    unfold maxLen at hc2
    go_enter Try.func35, Try.ntmps35
    go_wp2
    go_loopw [1, 5] (fun q i wr => ∃ j : Nat, j ≤ n ∧ i = .int .i64 j ∧ q = .int .i64 (k + j) ∧ ∃ ys : List Int, Fills tInt lo g cap wr n ys ∧ Hid (ys.take j = (marks k n).take j) ∧ Chg lo hi w wr) (fun _ i _ => n - (intOf i).toNat)
    case atStart => exact ⟨0, Nat.zero_le _, rfl, by simp, xs, F0, rfl, Chg.refl _ _ _⟩
    case round =>
      obtain ⟨j, hj, rfl, rfl, ys, F, HT, hch⟩ := hrel
      by_cases hlt : j < n
      · obtain ⟨z, c2⟩ : ∃ z, wr.cell? ⟨g, j, none⟩ = some (.int .i64 z) := ⟨_, F.cell j hlt⟩
        have c3 := F.frozen j
        have R1 := F.set j (k + j)
        have R2 : Hid ((ys.set j (k + j)).take (j + 1) = (marks k n).take (j + 1)) := by
          have e := take_set (marks k n) ys j (by rw [F.1, marks_length]) (by rw [marks_length]; exact hlt) HT.out
          rwa [marks_get] at e
        have R3 := hch.setCell hlo hhi (k := j) (.int .i64 (k + j))
        clear F HT hch
        go_wp2
        go_roundw
        case rel => exact ⟨j + 1, by omega, by go_num, by go_num, _, R1, R2, R3⟩
        case measure => simp [intOf]; omega
      · obtain rfl : j = n := by omega
        have e : ys = marks k j := by
          have := HT.out
          rwa [List.take_of_length_le (by rw [F.1]; exact Nat.le_refl _), List.take_of_length_le (by rw [marks_length]; exact Nat.le_refl _)] at this
        have R : OwnI tInt wr lo hi (.slice (some ⟨g, 0, none⟩) j cap) (marks k j) := by
          subst e
          refine ⟨⟨by simpa [marks_length] using F.2, fun g' hg => by simp [Value.ownBlock] at hg; omega⟩, fun x hx => ?_⟩
          obtain ⟨i, hi, rfl⟩ := List.getElem_of_mem hx
          rw [marks_get]; rw [marks_length] at hi
          exact WalkArith.wf_i64 (by omega)
        clear HT F e
        go_wp2
        go_ret
        exact ⟨rfl, R, hch⟩

set_option maxHeartbeats 400000 in
theorem heldIntS (v : Value) (n : Nat) (k : Int) (w : World) (h : Ints w v (marks k n)) (h0 : 0 ≤ k) (h1 : k + n ≤ 4611686018427387904) :
    Calls Try.prog 36 #[v, .int .i64 k] w (GivesN w (k + n)) := by
  obtain ⟨ao, cap, rfl, hcap, hmax, hnil, hcell⟩ := h
  have HC := Lib.hid hcell; clear hcell
  unfold maxLen at hmax
  rw [marks_length] at hcap ⊢
  go_enter Try.func36, Try.ntmps36
  go_wp2
  go_loop [1, 5] (fun q i => ∃ j : Nat, j ≤ n ∧ i = .int .i64 j ∧ q = .int .i64 (k + j)) (fun _ i => n - (intOf i).toNat)
  case atStart => exact ⟨0, Nat.zero_le _, rfl, by simp⟩
  case round =>
    obtain ⟨j, hj, rfl, rfl⟩ := hrel
    by_cases hlt : j < n
    · obtain ⟨b, o, u, rfl, hu, rfl, hwf⟩ := HC.out j (by rw [marks_length]; exact hlt)
      rw [marks_get] at hu
      have hb : (k + (j : Int) != k + (j : Int)) = false := by simp
      go_wp2
      go_round
      case rel => exact ⟨j + 1, by omega, by go_num, by go_num⟩
      case measure => simp [intOf]; omega
    · obtain rfl : j = n := by omega
      go_wp2
      go_ret
      exact ⟨rfl, Below.refl _ _⟩
theorem eqIntS_yes (v1 v2 : Value) (xs : List Int) (w : World) (h1 : Ints w v1 xs) (h2 : Ints w v2 xs) : Calls Try.prog 34 #[v1, v2] w (GivesB w true) := by
  have := eqIntS v1 v2 xs xs w h1 h2
  rwa [tf_yes rfl] at this

end Go.Proofs.Ythcnmaapcniehaa
