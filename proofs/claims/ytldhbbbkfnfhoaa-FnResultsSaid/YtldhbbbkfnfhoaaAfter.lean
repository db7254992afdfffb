/- Contracts: AfterPair, the program's and the reference's. -/
import Derived.Test.YtldhbbbkfnfhoaaImg
import Derived.Test.YtldhbbbkfnfhoaaMasks
import Derived.Test.YtldhbbbkfnfhoaaNetOk
namespace Go.Proofs.Ytldhbbbkfnfhoaa
open Go.RowKit
set_option linter.unusedVariables false

def AftP (n : Int) (xs : List Int) (i k : Int) : Prop := MasksP n xs ∧ (0 ≤ i ∧ i < n ∧ 0 ≤ k ∧ k < n ∧ i ≠ k)
/-- What a list becomes where p holds; else nothing. -/
noncomputable def onlyI (p : Prop) (xs : List Int) : List Int := bif tf p then xs else []
theorem onlyI_yes {p : Prop} {xs : List Int} (h : p) : onlyI p xs = xs := by unfold onlyI; rw [tf_yes h]; rfl
theorem onlyI_no {p : Prop} {xs : List Int} (h : ¬ p) : onlyI p xs = [] := by unfold onlyI; rw [tf_no h]; rfl
theorem onlyI_le {p : Prop} {xs : List Int} {m : Nat} (h : p → xs.length ≤ m) : (onlyI p xs).length ≤ m := by
  rcases Classical.em p with hp | hp
  · rw [onlyI_yes hp]; exact h hp
  · rw [onlyI_no hp]; simp
theorem pow256 {n : Int} (h : n ≤ 8) : 2 ^ n.toNat ≤ 256 := Nat.pow_le_pow_right (n := 2) (by omega) (show n.toNat ≤ 8 by omega)
theorem pow256n {N : Nat} (h : N ≤ 8) : 2 ^ N ≤ 256 := Nat.pow_le_pow_right (n := 2) (by omega) h
noncomputable def afN (n : Int) (xs : List Int) (i k : Int) : List Int := onlyI (AftP n xs i k) (imgL (2 ^ n.toNat) (mapF (fun m => stepN m i.toNat k.toNat) xs))
theorem afN_le (n : Int) (xs : List Int) (i k : Int) : (afN n xs i k).length ≤ 256 := onlyI_le fun h => by
  have h1 : n ≤ 8 := by have := h.1.1; unfold InP at this; omega
  exact Nat.le_trans (imgL_le _ _) (pow256 h1)
theorem MasksP.inM {N : Nat} {xs : List Int} (h : MasksP N xs) : InM (2 ^ N) xs := by
  intro x hx
  obtain ⟨i, hi, rfl⟩ := List.getElem_of_mem hx
  have := (h.2 i hi).1
  unfold InP at this
  rw [Int.toNat_natCast] at this
  have e : ((2 ^ N : Nat) : Int) = (2 : Int) ^ N := by simp
  rw [e]; omega
theorem GivesI.nil (w w' : World) (h : Below w.heap.size w w') : GivesI w [] (.returned (.slice none 0 0)) w' := ⟨_, rfl, ⟨Own.nil _ _ _ _, by simp⟩, h⟩

theorem one_pair (w : World) (i k : Nat) (hi : i < 8) (hk : k < 8) :
    IntSS ((w.alloc (.cells #[.int .i64 i, .int .i64 k] tInt)).alloc (.cells #[.slice (some ⟨w.heap.size, 0, none⟩) 2 2] tInts)) (.slice (some ⟨w.heap.size + 1, 0, none⟩) 1 1) (rowsOf [(i, k)]) := by
  have h := heap_alloc_new (w.alloc (.cells #[.int .i64 i, .int .i64 k] tInt)) (.cells #[.slice (some ⟨w.heap.size, 0, none⟩) 2 2] tInts)
  rw [World.size_alloc] at h
  have h0 := heap_alloc_new w (.cells #[.int .i64 i, .int .i64 k] tInt)
  have hb : Below (w.alloc (.cells #[.int .i64 i, .int .i64 k] tInt)).heap.size (w.alloc (.cells #[.int .i64 i, .int .i64 k] tInt)) ((w.alloc (.cells #[.int .i64 i, .int .i64 k] tInt)).alloc (.cells #[.slice (some ⟨w.heap.size, 0, none⟩) 2 2] tInts)) := (Below.refl _ _).alloc (Nat.le_refl _) _
  have hI : Ints (w.alloc (.cells #[.int .i64 i, .int .i64 k] tInt)) (.slice (some ⟨w.heap.size, 0, none⟩) 2 2) [(i : Int), (k : Int)] := by
    refine ⟨_, _, rfl, Nat.le_refl _, by decide, (fun h => by cases h), fun j hj => ?_⟩
    simp at hj
    refine ⟨w.heap.size, 0, .int .i64 ([(i : Int), (k : Int)].getD j 0), rfl, ?_, ?_⟩
    · unfold World.cell?; rw [h0]
      rcases j with _ | _ | j
      · rfl
      · rfl
      · omega
    · rcases j with _ | _ | j
      · exact ⟨rfl, show In64 (i : Int) from WalkArith.wf_i64 (by omega)⟩
      · exact ⟨rfl, show In64 (k : Int) from WalkArith.wf_i64 (by omega)⟩
      · omega
  refine ⟨_, _, rfl, Nat.le_refl _, by decide, (fun h => by cases h), fun j hj => ?_⟩
  have hj0 : j = 0 := by simp [rowsOf] at hj; omega
  subst hj0
  refine ⟨w.heap.size + 1, 0, .slice (some ⟨w.heap.size, 0, none⟩) 2 2, rfl, ?_, ?_⟩
  · unfold World.cell?; rw [h]; rfl
  · exact hI.keep (Below.keeps hb)

theorem afterC (q1 q2 i k m : Nat) (W : World) (h1 : W.cell? ⟨q1, 0, none⟩ = some (.int .i64 i)) (h2 : W.cell? ⟨q2, 0, none⟩ = some (.int .i64 k)) (hm : m < 256) (hi : i < 8) (hk : k < 8) :
    Calls Try.prog 30 #[.int .i64 (m : Int), .pointer (some ⟨q1, 0, none⟩), .pointer (some ⟨q2, 0, none⟩)] W (GivesN W (stepN m i k : Nat)) := by
  go_enter Try.func30, Try.ntmps30
  go_wp2_with fail
  refine (step m i k W hm hi hk).mono ?_; rintro e w1 ⟨rfl, n, rfl⟩
  go_wp2
  go_ret
  exact ⟨rfl, below_drewN (Below.refl _ _) _⟩
set_option maxHeartbeats 1600000 in
set_option maxRecDepth 100000 in
theorem implAfterPair (n : Int) (v : Value) (xs : List Int) (i k : Int) (w : World) (hn : (Lit.int .i64 n).wf = true) (h : Ints w v xs) (hl : xs.length ≤ 1048576) (hwi : (Lit.int .i64 i).wf = true) (hwk : (Lit.int .i64 k).wf = true) :
    Calls Try.prog 7 #[.int .i64 n, v, .int .i64 i, .int .i64 k] w (GivesI w (afN n xs i k)) := by
  have HI := Lib.hid h
  clear hn hwi hwk
  obtain ⟨ao, cap, hv, _⟩ := h
  have HI2 : Hid (∀ W, Below w.heap.size w W → Ints W v xs) := fun W hb => HI.out.keep (Below.keeps hb)
  have ba : Below w.heap.size w ((w.alloc (.cells #[.int .i64 i] 3)).alloc (.cells #[.int .i64 k] 3)) := ((Below.refl _ _).alloc (Nat.le_refl _) _).alloc (by simp) _
  rcases Classical.em (MasksP n xs) with hM | hM
  · have ht := tf_yes hM
    have hnb : 1 ≤ n ∧ n ≤ 8 := hM.1
    obtain ⟨N, rfl⟩ : ∃ N : Nat, n = (N : Int) := ⟨n.toNat, by omega⟩
    have HM := Lib.hid hM
    clear hM
    by_cases h3 : i = k
    · have HE : Hid (afN N xs i k = []) := onlyI_no fun h => h.2.2.2.2.2 h3
      rw [HE.out]
      have e3 : (i == k) = true := by simp [h3]
      clear h3
      subst hv
      go_enter Try.func7, Try.ntmps7
      go_wp2_with fail
      refine (implMasksOk _ _ xs _ (HI2.out _ ba)).mono ?_; rintro e w1 ⟨rfl, rfl⟩
      rw [ht]
      go_wp2
      go_ret
      exact GivesI.nil _ _ ba
    · have e3 : (i == k) = false := by simp [h3]
      by_cases h4 : 0 ≤ i ∧ 0 ≤ k
      · by_cases h5 : i < N ∧ k < N
        · obtain ⟨i', rfl⟩ : ∃ q : Nat, i = (q : Int) := ⟨i.toNat, by omega⟩
          obtain ⟨k', rfl⟩ : ∃ q : Nat, k = (q : Int) := ⟨k.toNat, by omega⟩
          have hP : AftP N xs i' k' := ⟨HM.out, by omega⟩
          have HE : Hid (afN N xs i' k' = imgL (2 ^ N) (mapF (fun m => stepN m i' k') xs)) := onlyI_yes hP
          rw [HE.out]
          clear hP h3
          subst hv
          go_enter Try.func7, Try.ntmps7
          go_wp2_with fail
          refine (implMasksOk _ _ xs _ (HI2.out _ ba)).mono ?_; rintro e w1 ⟨rfl, rfl⟩
          rw [ht]
          have HCs : Hid (∀ W (m : Nat), Below ((w.alloc (.cells #[.int .i64 i'] 3)).alloc (.cells #[.int .i64 k'] 3)).heap.size ((w.alloc (.cells #[.int .i64 i'] 3)).alloc (.cells #[.int .i64 k'] 3)) W → m < 2 ^ N → Calls Try.prog 30 #[.int .i64 (m : Int), .pointer (some ⟨w.heap.size, 0, none⟩), .pointer (some ⟨w.heap.size + 1, 0, none⟩)] W (GivesN W (stepN m i' k' : Nat))) := fun W m hW hm => by
            have hp8 : 2 ^ N ≤ 256 := pow256n (by omega)
            exact afterC _ _ i' k' m W (Below.keeps hW _ _ (by simp [go_sem])) (Below.keeps hW _ _ (by simp [go_sem])) (by omega) (by omega) (by omega)
          have HFm : Hid (∀ x ∈ xs, stepN x.toNat i' k' < 2 ^ N) := fun x hx => by
            have := HM.out.inM x hx
            exact stepN_pow N _ _ _ (by omega) (by omega) (by omega) (by omega)
          have hp8 : 2 ^ N ≤ 256 := pow256n (by omega)
          go_wp2_with fail
          all_goals (first | (exfalso; omega) | skip)
          refine (imagesA _ xs _ _ (fun m => stepN m i' k') (2 ^ N) _ (HI2.out _ ba) hl HM.out.inM hp8 HCs.out HFm.out).mono ?_; rintro e w5 ⟨u, rfl, R5, b5⟩
          have s4 := ba.size
          have s5 := b5.size
          have bz := ba.trans (b5.mono s4)
          clear hp8
          go_wp2
          go_ret
          exact ⟨_, rfl, R5.wide s4 (Nat.le_refl _), bz⟩
        · have HE : Hid (afN N xs i k = []) := onlyI_no fun h => by have := h.2; omega
          rw [HE.out]
          have e5 : ¬ (max i k < (N : Int)) := by omega
          have e6 : 0 ≤ min i k := by omega
          clear h3 h4 h5
          subst hv
          go_enter Try.func7, Try.ntmps7
          go_wp2_with fail
          refine (implMasksOk _ _ xs _ (HI2.out _ ba)).mono ?_; rintro e w1 ⟨rfl, rfl⟩
          rw [ht]
          go_wp2
          all_goals (first | (go_ret; exact GivesI.nil _ _ ba) | (exfalso; omega))
      · have HE : Hid (afN N xs i k = []) := onlyI_no fun h => by have := h.2; omega
        rw [HE.out]
        have e6 : min i k < 0 := by omega
        clear h3 h4
        subst hv
        go_enter Try.func7, Try.ntmps7
        go_wp2_with fail
        refine (implMasksOk _ _ xs _ (HI2.out _ ba)).mono ?_; rintro e w1 ⟨rfl, rfl⟩
        rw [ht]
        go_wp2
        all_goals (first | (go_ret; exact GivesI.nil _ _ ba) | (exfalso; omega))
  · have ht := tf_no hM
    have HE : Hid (afN n xs i k = []) := onlyI_no fun h => hM h.1
    rw [HE.out]
    clear hM
    subst hv
    go_enter Try.func7, Try.ntmps7
    go_wp2_with fail
    refine (implMasksOk _ _ xs _ (HI2.out _ ba)).mono ?_; rintro e w1 ⟨rfl, rfl⟩
    rw [ht]
    go_wp2
    go_ret
    exact GivesI.nil _ _ ba
end Go.Proofs.Ytldhbbbkfnfhoaa
