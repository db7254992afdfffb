/- Contracts: ApplyNetwork, the program's and the reference's. -/
import Derived.Test.YtldhbbbkfnfhoaaAppNet
namespace Go.Proofs.Ytldhbbbkfnfhoaa
open Go.RowKit
set_option linter.unusedVariables false

/-- A fresh list and a truth value come back. -/
def GivesIB (w : World) (xs : List Int) (b : Bool) (en : Ending) (w' : World) : Prop := ∃ v, en = .returned (.tuple #[v, .bool b]) ∧ OwnI tInt w' w.heap.size w'.heap.size v xs ∧ Below w.heap.size w w'
/-- ApplyNetwork takes this network and this list. -/
def ApP (n : Int) (rows : List (List Int)) (xs : List Int) : Prop := NetP n rows ∧ (xs.length : Int) = n
/-- What ApplyNetwork returns. -/
noncomputable def anN (n : Int) (rows : List (List Int)) (xs : List Int) : List Int := bif tf (ApP n rows xs) then apL (pairsOf rows) xs else []
theorem anN_no {n : Int} {rows : List (List Int)} {xs : List Int} (h : ¬ ApP n rows xs) : anN n rows xs = [] := by unfold anN; rw [tf_no h]; rfl
theorem anN_yes {n : Int} {rows : List (List Int)} {xs : List Int} (h : ApP n rows xs) : anN n rows xs = apL (pairsOf rows) xs := by unfold anN; rw [tf_yes h]; rfl
theorem anN_le (n : Int) (rows : List (List Int)) (xs : List Int) : (anN n rows xs).length ≤ 8 := by
  rcases Classical.em (ApP n rows xs) with h | h
  · rw [anN_yes h, apL_length]; have := h.1.1.2; have := h.2; omega
  · rw [anN_no h]; simp

set_option maxHeartbeats 800000 in
set_option maxRecDepth 100000 in
theorem implApplyNetwork (n : Int) (v : Value) (rows : List (List Int)) (u : Value) (xs : List Int) (w : World) (hn : (Lit.int .i64 n).wf = true) (h : IntSS w v rows) (hl : rows.length + sumLen rows ≤ 1048576) (hI : Ints w u xs) (hxl : xs.length ≤ 1048576) :
    Calls Try.prog 19 #[.agg #[.int .i64 n, v], u] w (GivesIB w (anN n rows xs) (tf (ApP n rows xs))) := by
  have hk : Hid (∀ W, Below w.heap.size w W → IntSS W v rows) := fun W hb => h.keep (Below.keeps hb)
  have HI : Hid (∀ W, Below w.heap.size w W → Ints W u xs) := fun W hb => hI.keep (Below.keeps hb)
  obtain ⟨ao, cap, hv, _⟩ := h
  obtain ⟨ao2, cap2, hu, _⟩ := hI
  clear hn hl
  rcases Classical.em (NetP n rows) with hN | hN
  · have ht := tf_yes hN
    have hN' := hN
    obtain ⟨N, rfl, hr, hp⟩ := hN.pairs
    have HP := Lib.hid hp
    have HR := Lib.hid hr
    by_cases hx : xs.length = N
    · have HX := Lib.hid hx
      have HE := Lib.hid (anN_yes (xs := xs) ⟨hN', by omega⟩)
      have HT := Lib.hid (tf_yes (p := ApP N rows xs) ⟨hN', by omega⟩)
      have hne : ((xs.length : Int) != (N : Int)) = false := by simp; omega
      have hxx : (xs.length : Int) = (N : Int) := by omega
      rw [HE.out, HT.out]
      subst hv
      subst hu
      clear hN hN' hp hr hx
      go_enter Try.func19, Try.ntmps19
      go_wp2_with fail
      refine (implNetworkOk _ _ rows _ (hk.out _ ((Below.refl _ _).alloc (Nat.le_refl _) _))).mono ?_; rintro e w1 ⟨rfl, b1⟩
      obtain ⟨cn, cv, b0, z⟩ := box_cells b1
      go_wp2_with fail
      refine (apply N _ _ (pairsOf rows) xs _ (by rw [← HR.out]; exact hk.out _ b0) (HI.out _ b0) HP.out HX.out).mono ?_; rintro e w2 ⟨v', rfl, R2, b2⟩
      have R := b0.trans (b2.mono b0.size)
      have R3 := OwnI.wide R2 b0.size (Nat.le_refl _)
      go_wp2
      go_ret2
      exact ⟨_, rfl, R3, R⟩
    · have HE := Lib.hid (anN_no (n := N) (rows := rows) (xs := xs) (fun hh => by have := hh.2; omega))
      have HT := Lib.hid (tf_no (p := ApP N rows xs) (fun hh => by have := hh.2; omega))
      have hne : ¬ ((xs.length : Int) = (N : Int)) := by omega
      rw [HE.out, HT.out]
      subst hv
      subst hu
      clear hN hN' hp hr hx
      go_enter Try.func19, Try.ntmps19
      go_wp2_with fail
      refine (implNetworkOk _ _ rows _ (hk.out _ ((Below.refl _ _).alloc (Nat.le_refl _) _))).mono ?_; rintro e w1 ⟨rfl, b1⟩
      obtain ⟨cn, cv, b0, z⟩ := box_cells b1
      go_wp2
      go_ret2
      exact ⟨_, rfl, ⟨Own.nil _ _ _ _, by simp⟩, b0⟩
  · have ht := tf_no hN
    have HE := Lib.hid (anN_no (n := n) (rows := rows) (xs := xs) (fun hh => hN hh.1))
    have HT := Lib.hid (tf_no (p := ApP n rows xs) (fun hh => hN hh.1))
    rw [HE.out, HT.out]
    subst hv
    subst hu
    clear hN
    go_enter Try.func19, Try.ntmps19
    go_wp2_with fail
    refine (implNetworkOk _ _ rows _ (hk.out _ ((Below.refl _ _).alloc (Nat.le_refl _) _))).mono ?_; rintro e w1 ⟨rfl, b1⟩
    obtain ⟨cn, cv, b0, z⟩ := box_cells b1
    go_wp2
    go_ret2
    exact ⟨_, rfl, ⟨Own.nil _ _ _ _, by simp⟩, b0⟩
end Go.Proofs.Ytldhbbbkfnfhoaa
