/- Contracts: ResultsOf, the program's and the reference's. -/
import Derived.Test.YtldhbbbkfnfhoaaAfter
import Derived.Test.YtldhbbbkfnfhoaaNetB
import Derived.Deep.RegionHeld3
namespace Go.Proofs.Ytldhbbbkfnfhoaa
open Go.RowKit
set_option linter.unusedVariables false

noncomputable def resN (n : Int) (rows : List (List Int)) : List Int := onlyI (NetP n rows) (imgL (2 ^ n.toNat) (mapF (bitsN (pairsOf rows)) (upto (2 ^ n.toNat))))
theorem resN_le (n : Int) (rows : List (List Int)) : (resN n rows).length ≤ 256 := onlyI_le fun h => by
  have h1 : n ≤ 8 := by have := h.1; unfold InP at this; omega
  exact Nat.le_trans (imgL_le _ _) (pow256 h1)
theorem upto_in (M : Nat) : InM M (upto M) := by
  intro x hx
  unfold upto at hx
  obtain ⟨i, hi, rfl⟩ := List.mem_map.1 hx
  rw [List.mem_range] at hi
  omega
theorem held2_b {W w1 w2 : World} {a b : Addr} {x y : Value} (h : (w1.cell? a = some x ∧ w1.cell? b = some y) ∧ Below W.heap.size W w1) (hb : Below w1.heap.size w1 w2) : (w2.cell? a = some x ∧ w2.cell? b = some y) ∧ Below W.heap.size W w2 :=
  ⟨⟨Below.keeps hb _ _ h.1.1, Below.keeps hb _ _ h.1.2⟩, h.2.trans (hb.mono h.2.size)⟩

set_option maxHeartbeats 1600000 in
set_option maxRecDepth 100000 in
theorem implResultsOf_no (n : Int) (v : Value) (rows : List (List Int)) (w : World) (h : IntSS w v rows) (hN : ¬ NetP n rows) :
    Calls Try.prog 5 #[.agg #[.int .i64 n, v]] w fun e w' => e = .returned (.slice none 0 0) ∧ Below w.heap.size w w' := by
  have hk : Hid (∀ W, Below w.heap.size w W → IntSS W v rows) := fun W hb => h.keep (Below.keeps hb)
  obtain ⟨ao, cap, hv, _⟩ := h
  have ba : Below w.heap.size w (w.alloc (.cells #[.int .i64 n, .slice ao rows.length cap] 25)) := (Below.refl _ _).alloc (Nat.le_refl _) _
  subst hv
  have ht := tf_no hN
  clear hN
  go_enter Try.func5, Try.ntmps5
  go_wp2_with fail
  refine (implNetworkOk _ _ rows _ (hk.out _ ba)).mono ?_; rintro e w1 ⟨rfl, b1⟩
  rw [ht]
  have bw := ba.trans (b1.mono ba.size)
  go_wp2
  go_ret
  exact ⟨rfl, bw⟩
set_option maxHeartbeats 1600000 in
set_option maxRecDepth 100000 in
theorem implResultsOf (n : Int) (v : Value) (rows : List (List Int)) (w : World) (hn : (Lit.int .i64 n).wf = true) (h : IntSS w v rows) (hl : rows.length + sumLen rows ≤ 1048576) :
    Calls Try.prog 5 #[.agg #[.int .i64 n, v]] w (GivesI w (resN n rows)) := by
  rcases Classical.em (NetP n rows) with hN | hN
  · have hk : Hid (∀ W, Below w.heap.size w W → IntSS W v rows) := fun W hb => h.keep (Below.keeps hb)
    obtain ⟨ao, cap, hv, _⟩ := h
    have ba : Below w.heap.size w (w.alloc (.cells #[.int .i64 n, .slice ao rows.length cap] 25)) := (Below.refl _ _).alloc (Nat.le_refl _) _
    clear hn hl
    subst hv
    have ht := tf_yes hN
    have HE : Hid (resN n rows = imgL (2 ^ n.toNat) (mapF (bitsN (pairsOf rows)) (upto (2 ^ n.toNat)))) := onlyI_yes hN
    obtain ⟨N, rfl, hr, hp⟩ := hN.pairs
    rw [HE.out, Int.toNat_natCast]
    have HP := Lib.hid hp
    have HR := Lib.hid hr
    have hN8 : N ≤ 8 := hp.2.1
    have hk2 : Hid (∀ W, Below w.heap.size w W → IntSS W (.slice ao rows.length cap) (rowsOf (pairsOf rows))) := fun W hb => by rw [← HR.out]; exact hk.out W hb
    have HCs : Hid (∀ W' : World, Below w.heap.size w W' → ∀ W (m : Nat), Below W'.heap.size W' W → m < 2 ^ N → Calls Try.prog 28 #[.agg #[.int .i64 N, .slice ao rows.length cap], .int .i64 (m : Int)] W (GivesN W (bitsN (pairsOf rows) m : Nat))) := fun W' hW' W m hW hm => by
      have hp8 : 2 ^ N ≤ 256 := pow256n hN8
      exact bits N _ N (pairsOf rows) m W (hk2.out _ (hW'.trans (hW.mono hW'.size))) HP.out (by omega)
    have HFm : Hid (∀ x ∈ upto (2 ^ N), bitsN (pairsOf rows) x.toNat < 2 ^ N) := fun x hx => by
      have := upto_in _ x hx
      exact bitsN_pow HP.out _ (by omega)
    clear hN hp hr HE
    go_enter Try.func5, Try.ntmps5
    go_wp2_with fail
    refine (implNetworkOk _ _ rows _ (hk.out _ ba)).mono ?_; rintro e w1 ⟨rfl, b1⟩
    rw [ht]
    have cx : w1.cell? ⟨w.heap.size, 0, none⟩ = some (.int .i64 N) := Below.keeps b1 _ _ (by simp [go_sem])
    have cy : w1.cell? ⟨w.heap.size, 1, none⟩ = some (.slice ao rows.length cap) := Below.keeps b1 _ _ (by simp [go_sem])
    have bw := ba.trans (b1.mono ba.size)
    go_wp2
    go_region_held3 (fun w' => (w'.cell? ⟨w.heap.size, 0, none⟩ = some (.int .i64 N) ∧ w'.cell? ⟨w.heap.size, 1, none⟩ = some (.slice ao rows.length cap)) ∧ Below w.heap.size w w')
      (first | assumption | exact ⟨⟨cx, cy⟩, bw.drew⟩ | exact held2_b (by assumption) (by assumption))
      ((first | (go_at_call 27; refine (allMasks N _ hN8).mono ?_; rintro e wa ⟨ua, rfl, Ra, ba⟩) | (go_at_call 26; refine (imagesB ua (upto (2 ^ N)) _ (bitsN (pairsOf rows)) (2 ^ N) wa Ra.ints (by rw [upto_length]; exact Nat.le_trans (pow256n hN8) (by decide)) (upto_in _) (pow256n hN8) (HCs.out wa (And.right (by assumption))) HFm.out).mono ?_; rintro e wb ⟨ub, rfl, Rb, bb⟩)))
    all_goals
      have bz := And.right (by assumption : _ ∧ Below w.heap.size w wb)
      have sz : w.heap.size ≤ wa.heap.size := Nat.le_trans bw.size (show w1.heap.size ≤ wa.heap.size from ba.size)
      go_wp2
      go_ret
      exact ⟨_, rfl, Rb.wide sz (Nat.le_refl _), bz⟩
  · have HE : Hid (resN n rows = []) := onlyI_no hN
    rw [HE.out]
    exact (implResultsOf_no n v rows w h hN).mono fun e w' ⟨h1, h2⟩ => by rw [h1]; exact GivesI.nil _ _ h2
end Go.Proofs.Ytldhbbbkfnfhoaa
