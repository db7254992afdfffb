/- Contracts: IsNeeded, the program's and the reference's. -/
import Derived.Test.YtelilimkcboioaaDropP
import Derived.Test.YtelilimkcboioaaUns2
namespace Go.Proofs.Ytelilimkcboioaa
open Go.RowKit
set_option linter.unusedVariables false

def NeedP (n : Int) (rows : List (List Int)) (j : Int) : Prop := SortP n rows ∧ (0 ≤ j ∧ j < rows.length) ∧ ¬ SortP n (rows.eraseIdx j.toNat)
theorem sumLen_erase (rows : List (List Int)) (j : Nat) : (rows.eraseIdx j).length + sumLen (rows.eraseIdx j) ≤ rows.length + sumLen rows := by
  have h1 := List.length_eraseIdx_le rows j
  have h2 : sumLen (rows.eraseIdx j) ≤ sumLen rows := by
    induction rows generalizing j with
    | nil => simp
    | cons r l ih =>
      cases j with
      | zero => simp [sumLen]
      | succ j => have := ih j (List.length_eraseIdx_le l j); simp [sumLen] at this ⊢; omega
  omega

set_option maxHeartbeats 1600000 in
set_option maxRecDepth 100000 in
theorem specIsNeeded (n : Int) (v : Value) (rows : List (List Int)) (j : Int) (w : World) (hn : (Lit.int .i64 n).wf = true) (h : IntSS w v rows) (hl : rows.length + sumLen rows ≤ 1048576) (hj : (Lit.int .i64 j).wf = true) :
    Calls Try.prog 21 #[.agg #[.int .i64 n, v], .int .i64 j] w (GivesB w (tf (NeedP n rows j))) := by
  have hk : Hid (∀ W, Below w.heap.size w W → IntSS W v rows) := fun W hb => h.keep (Below.keeps hb)
  obtain ⟨ao, cap, hv, hcap, hmax, _⟩ := h
  unfold maxLen at hmax
  have Hn := Lib.hid hn; have Hl := Lib.hid hl; have Hj := Lib.hid hj
  clear hn hl hj
  by_cases hS : SortP n rows
  · have hs : tf (SortP n rows) = true := tf_yes hS
    have h60 := hS.1.2.1
    by_cases hin : 0 ≤ j ∧ j < rows.length
    · have hi : tf (InP 0 j ((rows.length : Int) - 1)) = true := tf_yes (by unfold InP; omega)
      obtain ⟨N, rfl, hr, hp⟩ := hS.1.pairs
      have HP := Lib.hid hp
      have HR := Lib.hid hr
      have hpl : (pairsOf rows).length = rows.length := by rw [pairsOf, List.length_map]
      have HL := Lib.hid hpl
      clear hp hr hpl
      obtain ⟨jn, rfl⟩ : ∃ jn : Nat, j = (jn : Int) := ⟨j.toNat, by omega⟩
      have HE : Hid (dropTo (rowsOf (pairsOf rows)) (jn : Int) (pairsOf rows).length = rows.eraseIdx jn) := by
        show _ = _
        rw [HL.out, ← HR.out, dropTo_erase rows jn rows.length (Nat.le_refl _), List.take_of_length_le (Nat.le_refl _)]
      rcases Classical.em (SortP N (rows.eraseIdx jn)) with hD | hD
      · have hd : tf (SortP N (rows.eraseIdx jn)) = true := tf_yes hD
        rw [tf_no (p := NeedP N rows jn) (fun h => h.2.2 (by rw [Int.toNat_natCast]; exact hD))]
        subst hv
        clear hS hD
        go_enter Try.func21, Try.ntmps21
        go_wp2_with fail
        refine (specIsSorting N _ rows _ Hn.out (hk.out _ ((Below.refl _ _).alloc (Nat.le_refl _) _)) Hl.out).mono ?_; rintro e w1 ⟨rfl, b1⟩
        obtain ⟨cx, cy, bw1, y1⟩ := box_cells b1
        rw [hs]
        go_wp2_with fail
        refine (specIn' jn 0 ((rows.length : Int) - 1) w1).mono ?_; rintro e w2 ⟨rfl, b2⟩
        rw [hi]
        have cx2 := Below.keeps b2 _ _ cx
        have cy2 := Below.keeps b2 _ _ cy
        have bw2 := bw1.trans (b2.mono (by omega))
        have s2 := b2.size
        go_wp2_with fail
        refine (l06Drop N _ (pairsOf rows) jn w2 (by rw [← HR.out]; exact hk.out _ bw2) HP.out).mono ?_; rintro e w3 ⟨u3, rfl, R3, b3⟩
        rw [HE.out] at R3
        obtain ⟨a3, l3, c3, hu3⟩ := R3.shape
        subst hu3
        have bw3 := bw2.trans (b3.mono (by omega))
        go_wp2_with fail
        refine (specIsSorting N _ (rows.eraseIdx jn) _ Hn.out R3.intss (by have := sumLen_erase rows jn; have := Hl.out; omega)).mono ?_; rintro e w4 ⟨rfl, b4⟩
        rw [hd]
        have bw4 := bw3.trans (b4.mono bw3.size)
        go_wp2
        go_ret
        exact ⟨rfl, bw4⟩
      · have hd : tf (SortP N (rows.eraseIdx jn)) = false := tf_no hD
        rw [tf_yes (p := NeedP N rows jn) ⟨hS, hin, by rw [Int.toNat_natCast]; exact hD⟩]
        subst hv
        clear hS hD
        go_enter Try.func21, Try.ntmps21
        go_wp2_with fail
        refine (specIsSorting N _ rows _ Hn.out (hk.out _ ((Below.refl _ _).alloc (Nat.le_refl _) _)) Hl.out).mono ?_; rintro e w1 ⟨rfl, b1⟩
        obtain ⟨cx, cy, bw1, y1⟩ := box_cells b1
        rw [hs]
        go_wp2_with fail
        refine (specIn' jn 0 ((rows.length : Int) - 1) w1).mono ?_; rintro e w2 ⟨rfl, b2⟩
        rw [hi]
        have cx2 := Below.keeps b2 _ _ cx
        have cy2 := Below.keeps b2 _ _ cy
        have bw2 := bw1.trans (b2.mono (by omega))
        have s2 := b2.size
        go_wp2_with fail
        refine (l06Drop N _ (pairsOf rows) jn w2 (by rw [← HR.out]; exact hk.out _ bw2) HP.out).mono ?_; rintro e w3 ⟨u3, rfl, R3, b3⟩
        rw [HE.out] at R3
        obtain ⟨a3, l3, c3, hu3⟩ := R3.shape
        subst hu3
        have bw3 := bw2.trans (b3.mono (by omega))
        go_wp2_with fail
        refine (specIsSorting N _ (rows.eraseIdx jn) _ Hn.out R3.intss (by have := sumLen_erase rows jn; have := Hl.out; omega)).mono ?_; rintro e w4 ⟨rfl, b4⟩
        rw [hd]
        have bw4 := bw3.trans (b4.mono bw3.size)
        go_wp2
        go_ret
        exact ⟨rfl, bw4⟩
    · have hi : tf (InP 0 j ((rows.length : Int) - 1)) = false := tf_no (by unfold InP; omega)
      rw [tf_no (p := NeedP n rows j) (fun h => hin h.2.1)]
      subst hv
      clear hS hin
      go_enter Try.func21, Try.ntmps21
      go_wp2_with fail
      refine (specIsSorting n _ rows _ Hn.out (hk.out _ ((Below.refl _ _).alloc (Nat.le_refl _) _)) Hl.out).mono ?_; rintro e w1 ⟨rfl, b1⟩
      obtain ⟨cx, cy, bw1, y1⟩ := box_cells b1
      rw [hs]
      go_wp2_with fail
      refine (specIn' j 0 ((rows.length : Int) - 1) w1).mono ?_; rintro e w2 ⟨rfl, b2⟩
      rw [hi]
      have bw2 := bw1.trans (b2.mono (by omega))
      go_wp2
      go_ret
      exact ⟨rfl, bw2⟩
  · have hs : tf (SortP n rows) = false := tf_no hS
    rw [tf_no (p := NeedP n rows j) (fun h => hS h.1)]
    subst hv
    clear hS
    go_enter Try.func21, Try.ntmps21
    go_wp2_with fail
    refine (specIsSorting n _ rows _ Hn.out (hk.out _ ((Below.refl _ _).alloc (Nat.le_refl _) _)) Hl.out).mono ?_; rintro e w1 ⟨rfl, b1⟩
    obtain ⟨cx, cy, bw1, y1⟩ := box_cells b1
    rw [hs]
    go_wp2
    go_ret
    exact ⟨rfl, bw1⟩
set_option maxHeartbeats 1600000 in
set_option maxRecDepth 100000 in
theorem implIsNeeded (n : Int) (v : Value) (rows : List (List Int)) (j : Int) (w : World) (hn : (Lit.int .i64 n).wf = true) (h : IntSS w v rows) (hl : rows.length + sumLen rows ≤ 1048576) (hj : (Lit.int .i64 j).wf = true) :
    Calls Try.prog 22 #[.agg #[.int .i64 n, v], .int .i64 j] w (GivesB w (tf (NeedP n rows j))) := by
  have hk : Hid (∀ W, Below w.heap.size w W → IntSS W v rows) := fun W hb => h.keep (Below.keeps hb)
  obtain ⟨ao, cap, hv, hcap, hmax, _⟩ := h
  unfold maxLen at hmax
  have Hn := Lib.hid hn; have Hl := Lib.hid hl; have Hj := Lib.hid hj
  clear hn hl hj
  by_cases hD : DropP n rows j
  · have hd : tf (DropP n rows j) = true := tf_yes hD
    have HN : Hid (nbN (DropP n rows j) n = n) := nbN_yes hD
    have HR : Hid (nbR (DropP n rows j) (rows.eraseIdx j.toNat) = rows.eraseIdx j.toNat) := nbR_yes hD
    by_cases hS : SortP n rows
    · have hs : tf (SortP n rows) = true := tf_yes hS
      rcases Classical.em (SortP n (rows.eraseIdx j.toNat)) with hE | hE
      · have he : tf (SortP n (rows.eraseIdx j.toNat)) = true := tf_yes hE
        rw [tf_no (p := NeedP n rows j) (fun h => h.2.2 hE)]
        subst hv
        clear hS hD hE
        go_enter Try.func22, Try.ntmps22
        go_wp2_with fail
        refine (implDropPair n _ rows j _ Hn.out (hk.out _ ((Below.refl _ _).alloc (Nat.le_refl _) _)) Hl.out Hj.out).mono ?_; rintro e w1 ⟨u1, rfl, R1, b1⟩
        obtain ⟨a1, l1, c1, hu1⟩ := R1.shape
        subst hu1
        obtain ⟨cx, cy, bw1, y1⟩ := box_cells b1
        rw [hd, HN.out]
        rw [HR.out] at R1
        have bw1a : Below w.heap.size w (w1.alloc (.cells #[.int .i64 n, .slice a1 l1 c1] 26)) := bw1.alloc (by omega) _
        go_wp2_with fail
        refine (implIsSorting n _ rows _ Hn.out (hk.out _ bw1a) Hl.out).mono ?_; rintro e w2 ⟨rfl, b2⟩
        rw [hs]
        have bw2 := bw1a.trans (b2.mono bw1a.size)
        have b12 : Below w1.heap.size w1 w2 := ((Below.refl _ w1).alloc (Nat.le_refl _) _).trans (b2.mono (by simp))
        have k0 : w2.cell? ⟨w1.heap.size, 0, none⟩ = some (.int .i64 n) := (b2.cell (by simp)).trans (by simp [go_sem])
        have k1 : w2.cell? ⟨w1.heap.size, 1, none⟩ = some (.slice a1 l1 c1) := (b2.cell (by simp)).trans (by simp [go_sem])
        go_wp2_with fail
        refine (implIsSorting n _ (rows.eraseIdx j.toNat) _ Hn.out (R1.intss.keep (Below.keeps b12)) (by have := sumLen_erase rows j.toNat; have := Hl.out; omega)).mono ?_; rintro e w3 ⟨rfl, b3⟩
        rw [he]
        have bw3 := bw2.trans (b3.mono bw2.size)
        go_wp2
        go_ret
        exact ⟨rfl, bw3⟩
      · have he : tf (SortP n (rows.eraseIdx j.toNat)) = false := tf_no hE
        rw [tf_yes (p := NeedP n rows j) ⟨hS, hD.2, hE⟩]
        subst hv
        clear hS hD hE
        go_enter Try.func22, Try.ntmps22
        go_wp2_with fail
        refine (implDropPair n _ rows j _ Hn.out (hk.out _ ((Below.refl _ _).alloc (Nat.le_refl _) _)) Hl.out Hj.out).mono ?_; rintro e w1 ⟨u1, rfl, R1, b1⟩
        obtain ⟨a1, l1, c1, hu1⟩ := R1.shape
        subst hu1
        obtain ⟨cx, cy, bw1, y1⟩ := box_cells b1
        rw [hd, HN.out]
        rw [HR.out] at R1
        have bw1a : Below w.heap.size w (w1.alloc (.cells #[.int .i64 n, .slice a1 l1 c1] 26)) := bw1.alloc (by omega) _
        go_wp2_with fail
        refine (implIsSorting n _ rows _ Hn.out (hk.out _ bw1a) Hl.out).mono ?_; rintro e w2 ⟨rfl, b2⟩
        rw [hs]
        have bw2 := bw1a.trans (b2.mono bw1a.size)
        have b12 : Below w1.heap.size w1 w2 := ((Below.refl _ w1).alloc (Nat.le_refl _) _).trans (b2.mono (by simp))
        have k0 : w2.cell? ⟨w1.heap.size, 0, none⟩ = some (.int .i64 n) := (b2.cell (by simp)).trans (by simp [go_sem])
        have k1 : w2.cell? ⟨w1.heap.size, 1, none⟩ = some (.slice a1 l1 c1) := (b2.cell (by simp)).trans (by simp [go_sem])
        go_wp2_with fail
        refine (implIsSorting n _ (rows.eraseIdx j.toNat) _ Hn.out (R1.intss.keep (Below.keeps b12)) (by have := sumLen_erase rows j.toNat; have := Hl.out; omega)).mono ?_; rintro e w3 ⟨rfl, b3⟩
        rw [he]
        have bw3 := bw2.trans (b3.mono bw2.size)
        go_wp2
        go_ret
        exact ⟨rfl, bw3⟩
    · have hs : tf (SortP n rows) = false := tf_no hS
      rw [tf_no (p := NeedP n rows j) (fun h => hS h.1)]
      subst hv
      clear hS hD
      go_enter Try.func22, Try.ntmps22
      go_wp2_with fail
      refine (implDropPair n _ rows j _ Hn.out (hk.out _ ((Below.refl _ _).alloc (Nat.le_refl _) _)) Hl.out Hj.out).mono ?_; rintro e w1 ⟨u1, rfl, R1, b1⟩
      obtain ⟨a1, l1, c1, hu1⟩ := R1.shape
      subst hu1
      obtain ⟨cx, cy, bw1, y1⟩ := box_cells b1
      rw [hd, HN.out]
      rw [HR.out] at R1
      have bw1a : Below w.heap.size w (w1.alloc (.cells #[.int .i64 n, .slice a1 l1 c1] 26)) := bw1.alloc (by omega) _
      go_wp2_with fail
      refine (implIsSorting n _ rows _ Hn.out (hk.out _ bw1a) Hl.out).mono ?_; rintro e w2 ⟨rfl, b2⟩
      rw [hs]
      have bw2 := bw1a.trans (b2.mono bw1a.size)
      go_wp2
      go_ret
      exact ⟨rfl, bw2⟩
  · have hd : tf (DropP n rows j) = false := tf_no hD
    rw [tf_no (p := NeedP n rows j) (fun h => hD ⟨h.1.1, h.2.1⟩)]
    subst hv
    clear hD
    go_enter Try.func22, Try.ntmps22
    go_wp2_with fail
    refine (implDropPair n _ rows j _ Hn.out (hk.out _ ((Below.refl _ _).alloc (Nat.le_refl _) _)) Hl.out Hj.out).mono ?_; rintro e w1 ⟨u1, rfl, R1, b1⟩
    obtain ⟨a1, l1, c1, hu1⟩ := R1.shape
    subst hu1
    obtain ⟨cx, cy, bw1, y1⟩ := box_cells b1
    rw [hd]
    have bw1a : ∀ x, Below w.heap.size w (w1.alloc (.cells #[.int .i64 x, .slice a1 l1 c1] 26)) := fun x => bw1.alloc (by omega) _
    go_wp2
    go_ret
    exact ⟨rfl, bw1a _⟩
end Go.Proofs.Ytelilimkcboioaa
