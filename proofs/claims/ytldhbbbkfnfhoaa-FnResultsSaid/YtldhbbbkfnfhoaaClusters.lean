/- Contracts: ClustersOf, the program's and the reference's. -/
import Derived.Test.YtldhbbbkfnfhoaaMasks
import Derived.Test.YtldhbbbkfnfhoaaFill
namespace Go.Proofs.Ytldhbbbkfnfhoaa
open Go.RowKit
set_option linter.unusedVariables false

def clusStep (a : List Int) (m : Int) : List Int := a.set (onesN m.toNat) (a.getD (onesN m.toNat) 0 + 1)
/-- The numbers of the first k masks by their ones. -/
def clusTo (n : Nat) (xs : List Int) (k : Nat) : List Int := (xs.take k).foldl clusStep (List.replicate (n + 1) 0)
theorem clusTo_succ (n : Nat) (xs : List Int) (k : Nat) (h : k < xs.length) : clusTo n xs (k + 1) = clusStep (clusTo n xs k) xs[k] := by
  unfold clusTo; rw [List.take_succ_eq_append_getElem h, List.foldl_append]; rfl
theorem clusTo_length (n : Nat) (xs : List Int) (k : Nat) : (clusTo n xs k).length = n + 1 := by
  unfold clusTo
  suffices H : ∀ (l : List Int) (a : List Int), (l.foldl clusStep a).length = a.length by rw [H]; simp
  intro l
  induction l with
  | nil => intro a; rfl
  | cons x l ih => intro a; rw [List.foldl_cons, ih]; simp [clusStep]
theorem getD_in {a : List Int} {b : Int} (h : ∀ x ∈ a, 0 ≤ x ∧ x ≤ b) (hb : 0 ≤ b) (i : Nat) : 0 ≤ a.getD i 0 ∧ a.getD i 0 ≤ b := by
  by_cases hi : i < a.length
  · rw [List.getD_eq_getElem?_getD, List.getElem?_eq_getElem hi]; exact h _ (List.getElem_mem hi)
  · rw [List.getD_eq_getElem?_getD, List.getElem?_eq_none (by omega)]; exact ⟨Int.le_refl _, hb⟩
theorem clusTo_in (n : Nat) (xs : List Int) (k : Nat) : ∀ x ∈ clusTo n xs k, 0 ≤ x ∧ x ≤ k := by
  induction k with
  | zero => intro x hx; simp [clusTo] at hx; omega
  | succ k ih =>
    by_cases hk : k < xs.length
    · rw [clusTo_succ n xs k hk]
      intro x hx
      have hg := getD_in ih (by omega) (onesN xs[k].toNat)
      rcases List.mem_or_eq_of_mem_set hx with h | h
      · have := ih x h; omega
      · subst h; omega
    · have : clusTo n xs (k + 1) = clusTo n xs k := by unfold clusTo; rw [List.take_of_length_le (by omega), List.take_of_length_le (by omega)]
      rw [this]; intro x hx; have := ih x hx; omega
/-- What ClustersOf returns. -/
noncomputable def clusN (n : Int) (xs : List Int) : List Int := bif tf (MasksP n xs) then clusTo n.toNat xs xs.length else []
theorem clusN_le (n : Int) (xs : List Int) : (clusN n xs).length ≤ 9 := by
  unfold clusN
  rcases Classical.em (MasksP n xs) with h | h
  · rw [tf_yes h]; simp only [cond_true, clusTo_length]; have := h.1.2; omega
  · rw [tf_no h]; simp
theorem mask_fact {N : Nat} {xs : List Int} (hN : N ≤ 8) (h : MasksP N xs) (k : Nat) (hk : k < xs.length) : ∃ m : Nat, xs[k] = (m : Int) ∧ m < 256 ∧ onesN m ≤ N := by
  have hm := (h.2 k hk).1
  rw [Int.toNat_natCast] at hm
  have := pow_le8 N hN
  obtain ⟨m, hm'⟩ := Int.eq_ofNat_of_zero_le hm.1
  have h2 := hm.2
  exact ⟨m, hm', by omega, onesN_wires N m hN (by omega)⟩

set_option maxHeartbeats 800000 in
set_option maxRecDepth 100000 in
theorem implClustersOf (n : Int) (v : Value) (xs : List Int) (w : World) (hn : (Lit.int .i64 n).wf = true) (h : Ints w v xs) (hl : xs.length ≤ 1048576) :
    Calls Try.prog 11 #[.int .i64 n, v] w (GivesI w (clusN n xs)) := by
  have hI := Lib.hid h
  rcases Classical.em (MasksP n xs) with hM | hM
  · have ht := tf_yes hM
    have HE : Hid (clusN n xs = clusTo n.toNat xs xs.length) := by show _ = _; unfold clusN; rw [tf_yes hM]; rfl
    have hN8 := hM.1
    obtain ⟨N, rfl⟩ := Int.eq_ofNat_of_zero_le (show 0 ≤ n by have := hN8.1; omega)
    have hN8 : N ≤ 8 := by have := hN8.2; omega
    rw [Int.toNat_natCast] at HE
    rw [HE.out]
    have HM : Hid (∀ k (hk : k < xs.length), ∃ m : Nat, xs[k] = (m : Int) ∧ m < 256 ∧ onesN m ≤ N) := fun k hk => mask_fact hN8 hM k hk
    obtain ⟨ao, cap, rfl, hcap, hmax, hnil, hcell⟩ := h
    have HC := Lib.hid hcell; clear hcell
    unfold maxLen at hmax
    obtain ⟨i0, hi, hz0, hz1, hz2⟩ := info_parts infoInt
    clear hM
    go_enter Try.func11, Try.ntmps11
    go_wp2_with (first | (go_at_call 8; refine (implMasksOk _ _ xs _ hI.out).mono ?_; rintro e w' ⟨rfl, rfl⟩) | (at_make; refine wpList_make_full _ rfl _ _ 27 rfl w.heap.size 3 i0 (.int .i64 0) 1 Try.underlying27 hi hz0 hz1 .i64 .i64 _ _ (N + 1) rfl rfl (by go_num) (by go_num) ?_ ?_ ?_ ?_))
    · rw [hz2]; omega
    · unfold maxLen; omega
    · exact Nat.le_refl _
    intro w1 hown hg
    have F0 : Fills tInt w.heap.size w.heap.size (N + 1) w1 (N + 1) (List.replicate (N + 1) 0) := fills_zero (by simpa [toList_madeCells_one] using hown)
    have hb0 : Below w.heap.size w w1 := (Below.refl _ w).grown hg (Nat.le_refl _) (fun k h => by cases h)
    have hs0 : w.heap.size < w1.heap.size := (hown.lt w.heap.size rfl).2
    clear hown hg hi hz0 hz1 hz2
    go_wp2
    go_loopw [17] (fun i wr => ∃ k : Nat, k ≤ xs.length ∧ i = .int .i64 k ∧ ∃ ys : List Int, Fills tInt w.heap.size w.heap.size (N + 1) wr (N + 1) ys ∧ Hid (ys = clusTo N xs k) ∧ Below w.heap.size w wr ∧ w.heap.size < wr.heap.size) (fun i _ => xs.length - (intOf i).toNat)
    case atStart => exact ⟨0, Nat.zero_le _, rfl, _, F0, rfl, hb0, hs0⟩
    case round =>
      obtain ⟨k, hk, rfl, ys, F, HT, hb, hs⟩ := hrel
      by_cases hlt : k < xs.length
      · obtain ⟨b, o, u, rfl, hu, rfl, hwf⟩ := HC.out k hlt
        obtain ⟨m, hm, hm8, hmo⟩ := HM.out k hlt
        have c1 : wr.cell? ⟨b, o + k, none⟩ = some (.int .i64 xs[k]) := Below.keeps hb _ _ hu
        rw [hm] at c1
        have hmo' : onesN m < N + 1 := by omega
        have c2 := F.getD (onesN m) hmo'
        have c3 := F.frozen (onesN m)
        have hz := getD_in (HT.out ▸ clusTo_in N xs k) (by omega) (onesN m)
        obtain ⟨z, HZ⟩ : ∃ z, Hid (ys.getD (onesN m) 0 = z) := ⟨_, rfl⟩
        rw [HZ.out] at c2 hz
        clear hu hwf
        have R1 := F.set (onesN m) (z + 1)
        have R2 : Hid (ys.set (onesN m) (z + 1) = clusTo N xs (k + 1)) := by
          show _ = _; rw [clusTo_succ N xs k hlt, ← HT.out, hm]; unfold clusStep; rw [Int.toNat_natCast, HZ.out]
        have R3 : Below w.heap.size w (wr.setCell ⟨w.heap.size, onesN m, none⟩ (.int .i64 (z + 1))) := hb.setCell (Nat.le_refl _) _
        clear F HT hm
        go_wp2_with (go_at_call 33; refine (ones m _ hm8).mono ?_; rintro e w' ⟨rfl, rfl⟩)
        go_roundw
        case rel => exact ⟨k + 1, by omega, by go_num, _, R1, R2, R3, by simpa [World.setCell] using hs⟩
        case measure => simp [intOf]; omega
      · have hk' : k = xs.length := by omega
        have R : OwnI tInt wr w.heap.size wr.heap.size (.slice (some ⟨w.heap.size, 0, none⟩) (N + 1) (N + 1)) (clusTo N xs xs.length) := by
          rw [← hk', ← HT.out]
          exact F.own hs fun x hx => WalkArith.wf_i64 (by have := (HT.out ▸ clusTo_in N xs k) x hx; omega)
        clear HT F
        go_wp2
        go_ret
        exact ⟨_, rfl, R, hb⟩
  · have ht := tf_no hM
    have HE : Hid (clusN n xs = []) := by show _ = _; unfold clusN; rw [tf_no hM]; rfl
    rw [HE.out]
    obtain ⟨ao, cap, rfl, hcap, hmax, hnil, hcell⟩ := h
    clear hM hcell
    go_enter Try.func11, Try.ntmps11
    go_wp2_with (go_at_call 8; refine (implMasksOk _ _ xs _ hI.out).mono ?_; rintro e w' ⟨rfl, rfl⟩)
    go_ret
    exact ⟨_, rfl, ⟨Own.nil _ _ _ _, by simp⟩, Below.refl _ _⟩

end Go.Proofs.Ytldhbbbkfnfhoaa
