/- Contracts: l03Rises, slices.IsSorted on a list of integers: SortsOrder, SortsReverse. -/
import Derived.Test.YtjinaiggpngieaaAppNet2
namespace Go.Proofs.Ytjinaiggpngieaa
open Go.RowKit
set_option linter.unusedVariables false

/-- The list does not fall. -/
def RisesP (xs : List Int) : Prop := ∀ i, i + 1 < xs.length → xs.getD i 0 ≤ xs.getD (i + 1) 0


def LtP (x y : Int) : Prop := x < y
theorem isNaNI (x : Int) (w : World) : Calls Try.prog 59 #[.int .i64 x] w fun e w' => e = .returned (.bool false) ∧ w = w' := by
  go_enter Try.func59, Try.ntmps59
  go_wp2
  go_ret
  exact ⟨by simp, rfl⟩
theorem lessI (x y : Int) (w : World) : Calls Try.prog 53 #[.int .i64 x, .int .i64 y] w fun e w' => e = .returned (.bool (tf (LtP x y))) ∧ w = w' := by
  have HT : Hid (tf (LtP x y) = decide (x < y)) := (tf_congr Iff.rfl).trans (tf_dec (p := x < y))
  go_enter Try.func53, Try.ntmps53
  go_wp2_with (go_at_call 59; refine (isNaNI _ _).mono ?_; rintro e w' ⟨rfl, rfl⟩)
  go_ret
  exact ⟨ret_bool HT.out.symm, rfl⟩

set_option maxHeartbeats 800000 in
theorem isSortedI (v : Value) (xs : List Int) (w : World) (h : Ints w v xs) :
    Calls Try.prog 38 #[v] w (GivesB w (tf (RisesP xs))) := by
  obtain ⟨ao, cap, rfl, hcap, hmax, hnil, hcell⟩ := h
  have HC := Lib.hid hcell; clear hcell
  unfold maxLen at hmax
  have C : Hid (∀ x y W, Calls Try.prog 53 #[.int .i64 x, .int .i64 y] W fun e w' => e = .returned (.bool (tf (LtP x y))) ∧ ∃ n, w' = W.drewN n) :=
    fun x y W => (lessI x y W).mono fun _ _ ⟨a, b⟩ => ⟨a, 0, by rw [← b]; rfl⟩
  go_enter Try.func38, Try.ntmps38
  go_wp2
  go_loopw [3] (fun i wr => ∃ k : Int, -1 ≤ k ∧ k < xs.length ∧ i = .int .i64 k ∧ Hid (∀ i : Nat, k ≤ i → i + 1 < xs.length → xs.getD i 0 ≤ xs.getD (i + 1) 0) ∧ Below w.heap.size w wr) (fun i _ => (intOf i).toNat)
  case atStart => exact ⟨_, by omega, by omega, rfl, Lib.hid (fun i hi hj => by omega), Below.refl _ _⟩
  case round =>
    obtain ⟨k, hk1, hk, rfl, HR, hb⟩ := hrel
    by_cases hlt : 0 < k
    · obtain ⟨k, rfl⟩ : ∃ m : Nat, k = (m : Int) + 1 := ⟨(k - 1).toNat, by omega⟩
      have hlt' : k + 1 < xs.length := by omega
      obtain ⟨b, o, u1, rfl, hu1, rfl, _⟩ := HC.out (k + 1) hlt'
      obtain ⟨b', o', u2, hao, hu2, rfl, _⟩ := HC.out k (by omega)
      simp only [Option.some.injEq, Addr.mk.injEq] at hao
      obtain ⟨rfl, rfl, -⟩ := hao
      have c1 := Below.keeps hb _ _ hu1
      have c2 := Below.keeps hb _ _ hu2
      have g1 : xs.getD (k + 1) 0 = xs[k + 1] := by rw [List.getD_eq_getElem?_getD, List.getElem?_eq_getElem hlt']; rfl
      have g2 : xs.getD k 0 = xs[k]'(by omega) := by rw [List.getD_eq_getElem?_getD, List.getElem?_eq_getElem (by omega)]; rfl
      rw [← g1] at c1
      rw [← g2] at c2
      obtain ⟨y1, Y1⟩ : ∃ y, Hid (xs.getD (k + 1) 0 = y) := ⟨_, Lib.hid rfl⟩
      obtain ⟨y2, Y2⟩ : ∃ y, Hid (xs.getD k 0 = y) := ⟨_, Lib.hid rfl⟩
      rw [Y1.out] at c1
      rw [Y2.out] at c2
      clear hu1 hu2 g1 g2
      by_cases hy : y1 < y2
      · have HT : Hid (tf (RisesP xs) = false) := tf_no fun hh => by have := hh k hlt'; rw [Y1.out, Y2.out] at this; omega
        have C2 : Hid (∀ W, Calls Try.prog 53 #[.int .i64 y1, .int .i64 y2] W fun e w' => e = .returned (.bool true) ∧ ∃ n, w' = W.drewN n) := fun W => by
          have hh := C.out y1 y2 W
          rw [show tf (LtP y1 y2) = true from tf_yes hy] at hh
          exact hh
        go_wp2
        go_quiet ((go_at_call 53; exact Calls.quiet_of (C2.out _)))
        go_wp2
        go_ret
        exact ⟨ret_bool HT.out.symm, below_drewN hb _⟩
      · have HR2 : Hid (∀ i : Nat, (k : Int) ≤ i → i + 1 < xs.length → xs.getD i 0 ≤ xs.getD (i + 1) 0) := by
          intro i hi hj
          rcases Nat.lt_or_ge k i with hh | hh
          · exact HR.out i (by omega) hj
          · obtain rfl : i = k := by omega
            rw [Y1.out, Y2.out]; omega
        have C2 : Hid (∀ W, Calls Try.prog 53 #[.int .i64 y1, .int .i64 y2] W fun e w' => e = .returned (.bool false) ∧ ∃ n, w' = W.drewN n) := fun W => by
          have hh := C.out y1 y2 W
          rw [show tf (LtP y1 y2) = false from tf_no hy] at hh
          exact hh
        go_wp2
        go_quiet ((go_at_call 53; exact Calls.quiet_of (C2.out _)))
        go_wp2
        go_roundw
        case rel => exact ⟨k, by omega, by omega, by go_num, HR2, below_drewN hb _⟩
        case measure => first | (simp [intOf]; done) | (simp [intOf]; omega)
    · have HT : Hid (tf (RisesP xs) = true) := tf_yes fun i hi => HR.out i (by omega) hi
      go_wp2
      go_ret
      exact ⟨ret_bool HT.out.symm, hb⟩

/-- SortsOrder's truth. -/
def SoP (n : Int) (rows : List (List Int)) (xs : List Int) : Prop := ApP n rows xs ∧ RisesP (anN n rows xs)


set_option maxHeartbeats 800000 in
theorem implSortsOrder (n : Int) (v : Value) (rows : List (List Int)) (u : Value) (xs : List Int) (w : World) (hn : (Lit.int .i64 n).wf = true) (h : IntSS w v rows) (hl : rows.length + sumLen rows ≤ 1048576) (hI : Ints w u xs) (hxl : xs.length ≤ 1048576) :
    Calls Try.prog 21 #[.agg #[.int .i64 n, v], u] w (GivesB w (tf (SoP n rows xs))) := by
  have hk : Hid (∀ W, Below w.heap.size w W → IntSS W v rows) := fun W hb => h.keep (Below.keeps hb)
  have HI : Hid (∀ W, Below w.heap.size w W → Ints W u xs) := fun W hb => hI.keep (Below.keeps hb)
  have HN := Lib.hid hn
  obtain ⟨ao, cap, hv, _⟩ := h
  obtain ⟨ao2, cap2, hu, _⟩ := hI
  rcases Classical.em (ApP n rows xs) with hN | hN
  · have ht := tf_yes hN
    have HE : Hid (tf (SoP n rows xs) = tf (RisesP (anN n rows xs))) := tf_congr ⟨fun hh => hh.2, fun hh => ⟨hN, hh⟩⟩
    subst hv
    subst hu
    clear hN hn
    go_enter Try.func21, Try.ntmps21
    go_wp2_with fail
    refine (implApplyNetwork n _ rows _ xs _ HN.out (hk.out _ ((Below.refl _ _).alloc (Nat.le_refl _) _)) hl (HI.out _ ((Below.refl _ _).alloc (Nat.le_refl _) _)) hxl).mono ?_; rintro e w1 ⟨v', rfl, R1, b1⟩
    have b0 := ((Below.refl _ w).alloc (Nat.le_refl _) (.cells #[.int .i64 n, .slice ao rows.length cap] 25)).trans (b1.mono (by simp))
    have RI := Lib.hid R1.ints
    obtain ⟨pp, ll, cc, hpv⟩ := OwnI.shape R1
    subst hpv
    clear R1
    go_wp2_with (go_at_call 38; refine (isSortedI _ (anN n rows xs) _ RI.out).mono ?_; rintro e w2 ⟨rfl, b2⟩)
    have R := b0.trans (b2.mono b0.size)
    go_ret
    exact ⟨ret_bool HE.out.symm, R⟩
  · have ht := tf_no hN
    have HE : Hid (tf (SoP n rows xs) = false) := tf_no fun hh => hN hh.1
    subst hv
    subst hu
    clear hN hn
    go_enter Try.func21, Try.ntmps21
    go_wp2_with fail
    refine (implApplyNetwork n _ rows _ xs _ HN.out (hk.out _ ((Below.refl _ _).alloc (Nat.le_refl _) _)) hl (HI.out _ ((Below.refl _ _).alloc (Nat.le_refl _) _)) hxl).mono ?_; rintro e w1 ⟨v', rfl, R1, b1⟩
    have b0 := ((Below.refl _ w).alloc (Nat.le_refl _) (.cells #[.int .i64 n, .slice ao rows.length cap] 25)).trans (b1.mono (by simp))
    obtain ⟨pp, ll, cc, hpv⟩ := OwnI.shape R1
    subst hpv
    clear R1
    go_wp2
    go_ret
    exact ⟨ret_bool HE.out.symm, b0⟩
end Go.Proofs.Ytjinaiggpngieaa
