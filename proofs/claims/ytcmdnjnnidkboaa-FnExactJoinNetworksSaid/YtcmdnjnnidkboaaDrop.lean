/- Contracts: l06Drop: a network without a comparator; l02Copy: a copy of the pairs. -/
import Derived.Test.YtcmdnjnnidkboaaOwn
namespace Go.Proofs.Ytcmdnjnnidkboaa
open Go.RowKit
set_option linter.unusedVariables false

/-- The first k comparators without the one at place j. -/
def dropTo (rows : List (List Int)) (j : Int) : Nat → List (List Int)
  | 0 => []
  | k + 1 => if (k : Int) = j then dropTo rows j k else dropTo rows j k ++ [rows.getD k []]
theorem dropTo_yes {rows : List (List Int)} {j : Int} {k : Nat} (h : (k : Int) = j) : dropTo rows j (k + 1) = dropTo rows j k := by
  show (if (k : Int) = j then _ else _) = _; rw [if_pos h]
theorem dropTo_no {rows : List (List Int)} {j : Int} {k : Nat} (h : ¬ (k : Int) = j) : dropTo rows j (k + 1) = dropTo rows j k ++ [rows.getD k []] := by
  show (if (k : Int) = j then _ else _) = _; rw [if_neg h]
theorem dropTo_le (rows : List (List Int)) (j : Int) (k : Nat) : (dropTo rows j k).length ≤ k := by
  induction k with
  | zero => exact Nat.le_refl _
  | succ k ih =>
    by_cases h : (k : Int) = j
    · rw [dropTo_yes h]; omega
    · rw [dropTo_no h, List.length_append]; simp; omega

set_option maxHeartbeats 1600000 in
set_option maxRecDepth 100000 in
theorem l02Copy (N : Nat) (v : Value) (ps : List (Nat × Nat)) (w : World) (h : IntSS w v (rowsOf ps)) (hp : PsOk N ps) :
    Calls Try.prog 29 #[v] w (GivesSS w (rowsOf ps)) := by
  obtain ⟨ao, cap, rfl, hcap, hmax, hnil, hcell⟩ := pairs_open h
  have HC := Lib.hid hcell; clear hcell h
  have HP := Lib.hid hp
  unfold maxLen at hmax
  have hN8 := HP.out.2.1
  have h60 : ps.length ≤ 60 := HP.out.2.2.1
  clear hp
  obtain ⟨i0, hi, hz0, hz1, hz2⟩ := info_parts infoInts
  go_enter Try.func29, Try.ntmps29
  go_wp2
  go_loopw [3, 9] (fun o i wr => ∃ k : Nat, k ≤ ps.length ∧ i = .int .i64 k ∧ Hid (OwnSS tInt tInts wr w.heap.size wr.heap.size o ((rowsOf ps).take k)) ∧ Below w.heap.size w wr) (fun _ i _ => ps.length - (intOf i).toNat)
  case atStart => exact ⟨0, Nat.zero_le _, rfl, Lib.hid (OwnSS.lit0 _ _ _ _ (Nat.le_refl _)), (Below.refl _ _).alloc (Nat.le_refl _) _⟩
  case round =>
    obtain ⟨k, hk, rfl, HN, hb⟩ := hrel
    by_cases hlt : k < ps.length
    · obtain ⟨b, q, x, po, pc, rfl, hu, g1, g2, d0, d1⟩ := HC.out k hlt
      have c1 := Below.keeps hb _ _ hu
      have c2 := Below.keeps hb _ _ d0
      have c3 := Below.keeps hb _ _ d1
      have hxw : x < w.heap.size := World.block_lt_of_cell? w _ d0
      have hbw : b < w.heap.size := World.block_lt_of_cell? w _ hu
      unfold maxLen at g2
      clear hu d0 d1
      have HD : Hid ((rowsOf ps).take (k + 1) = (rowsOf ps).take k ++ [[(ps[k].1 : Int), (ps[k].2 : Int)]]) := by show _ = _; rw [take_next _ k (by rw [rowsOf_length]; exact hlt), rowsOf_get ps k hlt]
      obtain ⟨vs, hO, hR⟩ := HN.out
      have HO := Lib.hid hO
      have HR := Lib.hid hR
      have HU : Hid (∀ g, g < w.heap.size → some g ≠ u3.ownBlock) := fun g hg e => by have := HO.out.lt e.symm; omega
      have hvl : vs.length ≤ 60 := by have := HR.out.1; rw [List.length_take, rowsOf_length] at this; omega
      have hs := hb.size
      clear hO hR HN
      go_wp2
      go_region_held3 (fun w' => w'.cell? ⟨x, po, none⟩ = some (.int .i64 ps[k].1) ∧ w'.cell? ⟨x, po + 1, none⟩ = some (.int .i64 ps[k].2)) ((go_split_ands; refine ⟨?_, ?_⟩ <;> (first | assumption | exact cell_al (by assumption) | exact cell_st (by assumption) (by first | (simp; done) | (simp; omega)) | exact cell_gr hgrow (by assumption) (HU.out _ (by first | (simp; done) | (simp; omega))) | exact Below.keeps b2 _ _ (by assumption)))) ((refine step_append_lies _ (by rfl) (.tmp 13) (.tmp 21) 22 (by rfl) (w.heap.size) tInts i0 (.slice none 0 0) 1 24 Try.underlying22 hi hz0 hz1 hz2 rfl (by decide) u3 vs.length vs (by first | rfl | simp [Act.eval]) (by exact (HO.out.1.alloc _ |>.alloc _)) ⟨wr.heap.size + 1, 0, none⟩ 1 1 [.slice (some ⟨wr.heap.size, 0, none⟩) 2 2] (by simp [Act.eval]) (by rfl) (by exact news_two _ _ _ _) (by simp [Value.oneCell']) (by decide) (by unfold maxLen; omega) (by omega) (by simp; omega) (wr.heap.size + 2) (by simp) ?_; intro g cap2 w1 hown hgrow hat hlt2))
      have P := OwnSS.app HO.out HR.out (below_two wr _ _) (pair_two wr ps[k].1 ps[k].2 (WalkArith.wf_i64 (by have := HP.out.2.2.2 k hlt; omega)) (WalkArith.wf_i64 (by have := HP.out.2.2.2 k hlt; omega)) _) (by omega) ⟨by simpa using hown, fun g hg => (hown.lt g hg).2⟩ hgrow
      have Q : Below w.heap.size w w1 := below_app (hb.trans ((below_two wr _ _).mono hs)) (HO.out.below (below_two wr _ _) (Nat.le_refl _)) hgrow (Nat.le_refl _) (by simp; omega)
      rw [← HD.out] at P
      clear hown hgrow hat hlt2 HO HR
      go_wp2
      go_roundw
      case rel => exact ⟨k + 1, by omega, by go_num, Lib.hid P, Q⟩
      case measure => simp [intOf]; omega
    · have hk' : k = ps.length := by omega
      subst hk'
      have hR := HN.out
      rw [List.take_of_length_le (by rw [rowsOf_length]; exact Nat.le_refl _)] at hR
      clear HN
      go_wp2
      go_ret
      exact ⟨_, rfl, hR, hb⟩
end Go.Proofs.Ytcmdnjnnidkboaa
