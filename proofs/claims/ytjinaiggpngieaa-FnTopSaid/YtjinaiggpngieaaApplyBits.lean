/- Contracts: ApplyBits, the program's and the reference's. -/
import Derived.Test.YtjinaiggpngieaaApply
import Derived.Test.YtjinaiggpngieaaUp
namespace Go.Proofs.Ytjinaiggpngieaa
open Go.RowKit
set_option linter.unusedVariables false

/-- What ApplyBits returns. -/
noncomputable def abN (n : Int) (rows : List (List Int)) (a : Int) : Int := bif tf (NetP n rows ∧ InP 0 a (2 ^ n.toNat - 1)) then (bitsN (pairsOf rows) a.toNat : Int) else -1
theorem abN_no {n : Int} {rows : List (List Int)} {a : Int} (h : ¬ (NetP n rows ∧ InP 0 a (2 ^ n.toNat - 1))) : abN n rows a = -1 := by unfold abN; rw [tf_no h]; rfl
theorem abN_yes {n : Int} {rows : List (List Int)} {a : Int} (h : NetP n rows ∧ InP 0 a (2 ^ n.toNat - 1)) : abN n rows a = (bitsN (pairsOf rows) a.toNat : Int) := by unfold abN; rw [tf_yes h]; rfl

theorem implApplyBits (n : Int) (v : Value) (rows : List (List Int)) (a : Int) (w : World) (hn : (Lit.int .i64 n).wf = true) (h : IntSS w v rows) (hl : rows.length + sumLen rows ≤ 1048576) (ha : (Lit.int .i64 a).wf = true) :
    Calls Try.prog 11 #[.agg #[.int .i64 n, v], .int .i64 a] w (GivesN w (abN n rows a)) := by
  have hk : Hid (∀ W, Below w.heap.size w W → IntSS W v rows) := fun W hb => h.keep (Below.keeps hb)
  obtain ⟨ao, cap, hv, _⟩ := h
  clear hn hl ha
  rcases Classical.em (NetP n rows) with hN | hN
  · have ht := tf_yes hN
    obtain ⟨N, rfl, hr, hp⟩ := hN.pairs
    have hN8 := hp.2.1
    rcases Classical.em (InP 0 a (2 ^ N - 1)) with hA | hA
    · have ht2 := tf_yes hA
      have hp2 := pow_le8 N hp.2.1
      have HE : Hid (abN N rows a = (bitsN (pairsOf rows) a.toNat : Int)) := abN_yes ⟨hN, hA⟩
      obtain ⟨m, rfl⟩ := Int.eq_ofNat_of_zero_le hA.1
      have hm : m < 256 := by have := hA.2; omega
      have HP := Lib.hid hp
      have HR := Lib.hid hr
      subst hv
      clear hN hA hp hr
      go_enter Try.func11, Try.ntmps11
      go_wp2_with fail
      refine (implNetworkOk _ _ rows _ (hk.out _ ((Below.refl _ _).alloc (Nat.le_refl _) _))).mono ?_; rintro e w1 ⟨rfl, b1⟩
      obtain ⟨cn, cv, b0, z⟩ := box_cells b1
      go_wp2_with (go_at_call 31; refine (isMask N _ _ hN8).mono ?_; rintro e w' ⟨rfl, rfl⟩)
      refine (bits _ _ N (pairsOf rows) m _ (by rw [← HR.out]; exact hk.out _ b0) HP.out hm).mono ?_; rintro e w2 ⟨rfl, b2⟩
      have R := b0.trans (b2.mono b0.size)
      go_wp2
      go_ret
      exact ⟨ret_int (by rw [HE.out]; rfl), R⟩
    · have ht2 := tf_no hA
      have HE : Hid (abN N rows a = -1) := abN_no fun h => hA h.2
      subst hv
      clear hN hA hp hr
      go_enter Try.func11, Try.ntmps11
      go_wp2_with fail
      refine (implNetworkOk _ _ rows _ (hk.out _ ((Below.refl _ _).alloc (Nat.le_refl _) _))).mono ?_; rintro e w1 ⟨rfl, b1⟩
      obtain ⟨cn, cv, b0, z⟩ := box_cells b1
      go_wp2_with (go_at_call 31; refine (isMask N _ _ hN8).mono ?_; rintro e w' ⟨rfl, rfl⟩)
      go_ret
      exact ⟨ret_int HE.out.symm, b0⟩
  · have ht := tf_no hN
    have HE : Hid (abN n rows a = -1) := abN_no fun h => hN h.1
    subst hv
    clear hN
    go_enter Try.func11, Try.ntmps11
    go_wp2_with fail
    refine (implNetworkOk _ _ rows _ (hk.out _ ((Below.refl _ _).alloc (Nat.le_refl _) _))).mono ?_; rintro e w1 ⟨rfl, b1⟩
    obtain ⟨cn, cv, b0, z⟩ := box_cells b1
    go_wp2
    go_ret
    exact ⟨ret_int HE.out.symm, b0⟩
end Go.Proofs.Ytjinaiggpngieaa
