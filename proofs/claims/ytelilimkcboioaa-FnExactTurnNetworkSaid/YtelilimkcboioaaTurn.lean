/- Contracts: TurnNetwork, the program's and the reference's. -/
import Derived.Test.YtelilimkcboioaaNb
import Derived.Test.YtelilimkcboioaaOwn
import Derived.Test.YtelilimkcboioaaRowOps
namespace Go.Proofs.Ytelilimkcboioaa
open Go.RowKit
set_option linter.unusedVariables false

def TurnP (n : Int) (rows : List (List Int)) : Prop := NetP n rows ∧ True
theorem turn_le (n : Int) (rows : List (List Int)) : sumLen (nbR (TurnP n rows) rows.reverse) ≤ 120 := nbR_le fun h => by
  have h1 := sumLen_le2 rows.reverse fun r hr => h.1.two r (List.mem_reverse.1 hr)
  have h2 := h.1.2.1
  rw [List.length_reverse] at h1; omega

set_option maxHeartbeats 1600000 in
set_option maxRecDepth 100000 in
theorem implTurnNetwork (n : Int) (v : Value) (rows : List (List Int)) (w : World) (hn : (Lit.int .i64 n).wf = true) (h : IntSS w v rows) (hl : rows.length + sumLen rows ≤ 1048576) :
    Calls Try.prog 24 #[.agg #[.int .i64 n, v]] w (GivesNB w (nbN (TurnP n rows) n) (nbR (TurnP n rows) (rows.reverse)) (tf (TurnP n rows))) := by
  have hk : Hid (∀ W, Below w.heap.size w W → IntSS W v rows) := fun W hb => h.keep (Below.keeps hb)
  obtain ⟨ao, cap, hv, hcap, hmax, _⟩ := h
  unfold maxLen at hmax
  clear hn hl
  rcases Classical.em (NetP n rows) with hN | hN
  · have ht := tf_yes hN
    have h60 := hN.2.1
    have hN0 := hN
    obtain ⟨N, rfl, hr, hp⟩ := hN.pairs
    have HN := Lib.hid hN0
    have HP := Lib.hid hp
    have HR := Lib.hid hr
    have hN8 := hp.2.1
    have hpl : (pairsOf rows).length = rows.length := by rw [pairsOf, List.length_map]
    have HL := Lib.hid hpl
    subst hv
    clear hN hN0 hp hr hpl
    have hP : TurnP N rows := ⟨HN.out, trivial⟩
    rw [nbN_yes hP, nbR_yes hP, tf_yes hP]
    clear hP
    clear HN
    go_enter Try.func24, Try.ntmps24
    go_wp2_with fail
    refine (implNetworkOk _ _ rows _ (hk.out _ (((Below.refl _ _).alloc (Nat.le_refl _) _).alloc (by simp) _))).mono ?_; rintro e w1 ⟨rfl, b1⟩
    have r1 := (ResC.start (w.alloc (.cells #[.int .i64 N, .slice ao rows.length cap] 26)) 26).below b1 (by simp)
    rw [World.size_alloc] at r1
    have cx : w1.cell? ⟨w.heap.size, 0, none⟩ = some (.int .i64 N) := (b1.cell (by simp; omega)).trans (by simp [go_sem])
    have cy : w1.cell? ⟨w.heap.size, 1, none⟩ = some (.slice ao rows.length cap) := (b1.cell (by simp; omega)).trans (by simp [go_sem])
    have bw1 : Below w.heap.size w w1 := (((Below.refl _ _).alloc (Nat.le_refl _) _).alloc (by simp) _).trans (b1.mono (by simp; omega))
    have s1 : w.heap.size + 2 ≤ w1.heap.size := by have := b1.size; simpa using this
    go_wp2_with fail
    refine (ownN N _ (pairsOf rows) _ (by rw [← HR.out]; exact hk.out _ bw1) HP.out).mono ?_; rintro e w2 ⟨u2, rfl, R2, b2⟩
    rw [← HR.out] at R2
    obtain ⟨a2, l2, c2, hu2⟩ := R2.shape
    subst hu2
    have s2 := b2.size
    have r2 := r1.below b2 (by omega)
    go_wp2_with fail
    obtain ⟨w2b, HW⟩ : ∃ W, Hid (W = w2.alloc (.cells #[.int .i64 N, .slice a2 l2 c2] 26)) := ⟨_, rfl⟩
    rw [← HW.out]
    have b2b : Below w2.heap.size w2 w2b := by rw [HW.out]; exact (Below.refl _ _).alloc (Nat.le_refl _) _
    have k0 : w2b.cell? ⟨w2.heap.size, 0, none⟩ = some (.int .i64 N) := by rw [HW.out]; simp [go_sem]
    have k1 : w2b.cell? ⟨w2.heap.size, 1, none⟩ = some (.slice a2 l2 c2) := by rw [HW.out]; simp [go_sem]
    have z2 : w2.heap.size < w2b.heap.size := by rw [HW.out]; simp
    clear HW
    refine (revRows _ _ _ _ _ (R2.below b2b (Nat.le_refl _))).mono ?_; rintro e w3 ⟨rfl, R3, c3⟩
    have k0 := chg_cell c3 (.inr (Nat.le_refl _)) k0
    have k1 := chg_cell c3 (.inr (Nat.le_refl _)) k1
    have s3 := c3.size
    have b3 : Below w1.heap.size w1 w3 := (b2.trans (b2b.mono s2)).trans (c3.below (by omega) (Nat.le_refl _))
    obtain ⟨d0, d1, f0, f1, _⟩ := r1.below b3 (by omega)
    have bw : Below w.heap.size w w3 := bw1.trans (b3.mono (by omega))
    have R3 := R3.wide (Nat.le_refl _) (show w2.heap.size ≤ w3.heap.size by omega)
    obtain ⟨RR, BB⟩ := R3.res (R := w.heap.size + 1) (x := .int .i64 N) (y := .slice a2 l2 c2) (by omega) bw (by omega)
    go_wp2
    exact bodyPost_ret (v := .tuple #[.agg #[.int .i64 N, .slice a2 l2 c2], .bool true]) (by simp [results, Try.results24, go_sem, d0, d1]) rfl ⟨_, rfl, RR, BB⟩
  · have ht := tf_no hN
    have hNP : ¬ (TurnP n rows) := fun h => hN (And.left h)
    rw [nbN_no hNP, nbR_no hNP, tf_no hNP]
    clear hNP
    subst hv
    clear hN
    go_enter Try.func24, Try.ntmps24
    go_wp2_with fail
    refine (implNetworkOk _ _ rows _ (hk.out _ (((Below.refl _ _).alloc (Nat.le_refl _) _).alloc (by simp) _))).mono ?_; rintro e w1 ⟨rfl, b1⟩
    obtain ⟨d0, d1, f0, f1, _⟩ := (ResC.start (w.alloc (.cells #[.int .i64 n, .slice ao rows.length cap] 26)) 26).below b1 (by simp)
    rw [World.size_alloc] at d0 d1 f0 f1
    have bw : Below w.heap.size w w1 := (((Below.refl _ _).alloc (Nat.le_refl _) _).alloc (by simp) _).trans (b1.mono (by simp; omega))
    go_wp2
    exact bodyPost_ret (v := .tuple #[.agg #[.int .i64 0, .slice none 0 0], .bool false]) (by simp [results, Try.results24, go_sem, d0, d1]) rfl ⟨_, rfl, OwnSS.nil _ _ _ _ _, (bw.setCell (by simp) _).setCell (by simp) _⟩

set_option maxHeartbeats 1600000 in
set_option maxRecDepth 100000 in
theorem specTurnNetwork (n : Int) (v : Value) (rows : List (List Int)) (w : World) (hn : (Lit.int .i64 n).wf = true) (h : IntSS w v rows) (hl : rows.length + sumLen rows ≤ 1048576) :
    Calls Try.prog 23 #[.agg #[.int .i64 n, v]] w (GivesNB w (nbN (TurnP n rows) n) (nbR (TurnP n rows) (rows.reverse)) (tf (TurnP n rows))) := by
  have hk : Hid (∀ W, Below w.heap.size w W → IntSS W v rows) := fun W hb => h.keep (Below.keeps hb)
  obtain ⟨ao, cap, hv, hcap, hmax, _⟩ := h
  unfold maxLen at hmax
  clear hn hl
  rcases Classical.em (NetP n rows) with hN | hN
  · have ht := tf_yes hN
    have h60 := hN.2.1
    have hN0 := hN
    obtain ⟨N, rfl, hr, hp⟩ := hN.pairs
    have HN := Lib.hid hN0
    have HP := Lib.hid hp
    have HR := Lib.hid hr
    have hN8 := hp.2.1
    have hpl : (pairsOf rows).length = rows.length := by rw [pairsOf, List.length_map]
    have HL := Lib.hid hpl
    subst hv
    clear hN hN0 hp hr hpl
    have hP : TurnP N rows := ⟨HN.out, trivial⟩
    rw [nbN_yes hP, nbR_yes hP, tf_yes hP]
    clear hP
    clear HN
    go_enter Try.func23, Try.ntmps23
    go_wp2_with fail
    refine (specNetworkOk _ _ rows _ (hk.out _ (((Below.refl _ _).alloc (Nat.le_refl _) _).alloc (by simp) _))).mono ?_; rintro e w1 ⟨rfl, b1⟩
    have r1 := (ResC.start (w.alloc (.cells #[.int .i64 N, .slice ao rows.length cap] 26)) 26).below b1 (by simp)
    rw [World.size_alloc] at r1
    have cx : w1.cell? ⟨w.heap.size, 0, none⟩ = some (.int .i64 N) := (b1.cell (by simp; omega)).trans (by simp [go_sem])
    have cy : w1.cell? ⟨w.heap.size, 1, none⟩ = some (.slice ao rows.length cap) := (b1.cell (by simp; omega)).trans (by simp [go_sem])
    have bw1 : Below w.heap.size w w1 := (((Below.refl _ _).alloc (Nat.le_refl _) _).alloc (by simp) _).trans (b1.mono (by simp; omega))
    have s1 : w.heap.size + 2 ≤ w1.heap.size := by have := b1.size; simpa using this
    have y1 : w.heap.size < w1.heap.size := by omega
    have y2 : w.heap.size + 1 < w1.heap.size := by omega
    have HP2 := HP
    obtain ⟨W1, HW1⟩ : ∃ W, Hid (W = w1.alloc (.cells #[.int .i64 N, .slice none 0 0] 26)) := ⟨_, rfl⟩
    have bO : Below w1.heap.size w1 W1 := by rw [HW1.out]; exact (Below.refl _ _).alloc (Nat.le_refl _) _
    have hS : NetIn w1.heap.size (w1.heap.size + 1) N [] W1 (.slice none 0 0) := by rw [HW1.out]; exact NetIn.start _ _ _
    have bwW : Below w.heap.size w W1 := bw1.trans (bO.mono (by omega))
    have rW := r1.below bO (by omega)
    have hI : IntSS w (.slice ao rows.length cap) (rowsOf (pairsOf rows)) := by rw [← HR.out]; exact hk.out w (Below.refl _ _)
    obtain ⟨ao', cap', hv', _, _, hnil, hcell⟩ := pairs_open hI
    simp only [Value.slice.injEq] at hv'
    obtain ⟨hv1, -, hv2⟩ := hv'
    subst hv1; subst hv2
    have HC := Lib.hid hcell; clear hcell hI
    have cy1 : W1.cell? ⟨w.heap.size, 1, none⟩ = some (.slice ao rows.length cap) := (bO.cell (by show w.heap.size < _; omega)).trans cy
    have s2 : w1.heap.size + 1 ≤ W1.heap.size := by rw [HW1.out]; simp
    obtain ⟨i0, hi, hz0, hz1, hz2⟩ := info_parts infoInts
    go_wp2
    rw [← HW1.out]
    clear HW1
    go_loopw [5] (fun i wr => ∃ m k : Nat, m + k = rows.length ∧ i = .int .i64 ((m : Int) - 1) ∧ ∃ (u : Value), Hid (NetIn w1.heap.size (w1.heap.size + 1) N (rows.reverse.take k) wr u) ∧ Hid (Kept w1.heap.size (w1.heap.size + 1) W1 wr)) (fun i _ => ((intOf i) + 1).toNat)
    case atStart => exact ⟨rows.length, 0, rfl, rfl, _, Lib.hid (by simpa using hS), Lib.hid (Kept.refl _ _ _ (by omega))⟩
    case round =>
      obtain ⟨m, k, hmk, rfl, u, HN, HK⟩ := hrel
      have hb : Below w.heap.size w wr := bwW.trans (HK.out.1.mono (by omega))
      rcases m with _ | j
      · have hk' : k = rows.length := by omega
        subst hk'
        have HN' : Hid (NetIn w1.heap.size (w1.heap.size + 1) N rows.reverse wr u) := by have := HN.out; rw [List.take_of_length_le (by simp)] at this; exact this
        clear HN
        have HN := HN'
        clear HN'
        obtain ⟨hR, cn, cu, cf, hB, hlo⟩ := HN.out
        obtain ⟨d0, d1, f0, f1, _⟩ := rW.below HK.out.1 (by omega)
        obtain ⟨a3, l3, c3, hu⟩ := hR.shape
        subst hu
        have bwr : Below w.heap.size w wr := bwW.trans (HK.out.1.mono (by omega))
        obtain ⟨RR, BB⟩ := hR.res (R := w.heap.size + 1) (x := .int .i64 N) (y := .slice a3 l3 c3) (by omega) bwr (by omega)
        clear hR HN HK
        go_wp2
        exact bodyPost_ret (v := .tuple #[.agg #[.int .i64 N, .slice a3 l3 c3], .bool true]) (by simp [results, Try.results23, go_sem, d0, d1]) rfl ⟨_, rfl, RR, BB⟩
      · have hlt : j < (pairsOf rows).length := by rw [HL.out]; omega
        have hij : (((j + 1 : Nat) : Int) - 1) = j := by omega
        obtain ⟨b, q, x, po, pc, rfl, hu, g1, g2, d0, d1⟩ := HC.out j hlt
        have c0 : wr.cell? ⟨w.heap.size, 1, none⟩ = some (.slice (some ⟨b, q, none⟩) rows.length cap) := (HK.out.cell (by show w.heap.size ≠ _; omega) (by show w.heap.size < _; omega)).trans cy1
        have c1 := Below.keeps hb _ _ hu
        have c2 := Below.keeps hb _ _ d0
        have c3 := Below.keeps hb _ _ d1
        have hxw : x < w.heap.size := World.block_lt_of_cell? w _ d0
        have hbw : b < w.heap.size := World.block_lt_of_cell? w _ hu
        unfold maxLen at g2
        clear hu d0 d1
        have HD : Hid (rows.reverse.take (k + 1) = rows.reverse.take k ++ [[((pairsOf rows)[j].1 : Int), ((pairsOf rows)[j].2 : Int)]]) := by
          show _ = _
          rw [take_next _ k (by rw [List.length_reverse]; omega), List.getElem_reverse]
          have e : rows[rows.length - 1 - k]'(by omega) = [((pairsOf rows)[j].1 : Int), ((pairsOf rows)[j].2 : Int)] := by
            have h2 : rows.length - 1 - k = j := by omega
            have h3 := rowsOf_getD (pairsOf rows) j hlt
            rw [← HR.out, List.getD_eq_getElem?_getD, List.getElem?_eq_getElem (by omega)] at h3
            simp only [h2]; exact h3
          rw [e]
        have hw1 : In64 ((pairsOf rows)[j].1 : Int) := WalkArith.wf_i64 (by have := HP.out.2.2.2 j hlt; omega)
        have hw2 : In64 ((pairsOf rows)[j].2 : Int) := WalkArith.wf_i64 (by have := HP.out.2.2.2 j hlt; omega)
        obtain ⟨⟨vs, hO, hR⟩, cn, cu2, cf2, hB, hlo⟩ := HN.out
        have HO := Lib.hid hO
        have HW := Lib.hid hR
        have HU : Hid (∀ g, g < w1.heap.size + 1 → some g ≠ u.ownBlock) := fun g hg e => by have := HO.out.lt e.symm; omega
        have hvl : vs.length ≤ 60 := by have := HW.out.1; rw [List.length_take, List.length_reverse] at this; omega
        have hB2 : w1.heap.size < wr.heap.size := by omega
        have hB3 : w1.heap.size < wr.heap.size + 1 := by omega
        clear hO hR HN
        rw [hij]
        clear hij
        have hjr : j < rows.length := by omega
        generalize ((pairsOf rows)[j].1 : Int) = pa at *
        generalize ((pairsOf rows)[j].2 : Int) = pb at *
        go_wp2
        rw [show Op.load 22 (Operand.tmp 21) = ldOp 22 (Operand.tmp 21) from rfl]
        go_region_held3 (fun w' => w'.cell? ⟨w.heap.size, 1, none⟩ = some (.slice (some ⟨b, q, none⟩) rows.length cap) ∧ w'.cell? ⟨b, q + j, none⟩ = some (.slice (some ⟨x, po, none⟩) 2 pc) ∧ w'.cell? ⟨x, po, none⟩ = some (.int .i64 pa) ∧ w'.cell? ⟨x, po + 1, none⟩ = some (.int .i64 pb)) ((go_split_ands; refine ⟨?_, ?_, ?_, ?_⟩ <;> (first | assumption | exact cell_al (by assumption) | exact cell_st (by assumption) (by first | (simp; done) | (simp; omega)) | exact cell_gr hgrow (by assumption) (HU.out _ (by first | (simp; done) | (simp; omega))) | exact Below.keeps b2 _ _ (by assumption)))) ((refine step_append_lies _ (by rfl) (.tmp 22) (.tmp 38) 22 (by rfl) (w1.heap.size + 1) tInts i0 (.slice none 0 0) 1 24 Try.underlying22 hi hz0 hz1 hz2 rfl (by decide) u vs.length vs (by first | rfl | simp [Act.eval]) (by exact (HO.out.1.alloc _ |>.alloc _)) ⟨wr.heap.size + 1, 0, none⟩ 1 1 [.slice (some ⟨wr.heap.size, 0, none⟩) 2 2] (by simp [Act.eval]) (by rfl) (by exact news_two _ _ _ _) (by simp [Value.oneCell']) (by decide) (by unfold maxLen; omega) (by omega) (by simp; omega) (wr.heap.size + 2) (by simp) ?_; intro g cap2 w1 hown hgrow hat hlt2; have zz := after_new (below_two _ _ _) hgrow cu2 cf2 (HU.out _ (by first | (simp; done) | (simp; omega))); obtain ⟨z1, z2⟩ := zz))
        all_goals
          obtain ⟨P, Q⟩ := NetIn.push (n := N) HO.out HW.out cn cu2 cf2 hB hlo (below_two _ _ _) (pair_two _ _ _ hw1 hw2 _) (by simp) hown hgrow HK.out
          rw [← HD.out] at P
          clear hown hgrow hat hlt2 z1 z2 HO HW
          go_wp2
          go_roundw
          case rel => exact ⟨j, k + 1, by omega, by go_num, _, Lib.hid P, Lib.hid Q⟩
          case measure => first | (simp [intOf]; done) | (simp [intOf]; omega)
  · have ht := tf_no hN
    have hNP : ¬ (TurnP n rows) := fun h => hN (And.left h)
    rw [nbN_no hNP, nbR_no hNP, tf_no hNP]
    clear hNP
    subst hv
    clear hN
    go_enter Try.func23, Try.ntmps23
    go_wp2_with fail
    refine (specNetworkOk _ _ rows _ (hk.out _ (((Below.refl _ _).alloc (Nat.le_refl _) _).alloc (by simp) _))).mono ?_; rintro e w1 ⟨rfl, b1⟩
    obtain ⟨d0, d1, f0, f1, _⟩ := (ResC.start (w.alloc (.cells #[.int .i64 n, .slice ao rows.length cap] 26)) 26).below b1 (by simp)
    rw [World.size_alloc] at d0 d1 f0 f1
    have bw : Below w.heap.size w w1 := (((Below.refl _ _).alloc (Nat.le_refl _) _).alloc (by simp) _).trans (b1.mono (by simp; omega))
    go_wp2
    exact bodyPost_ret (v := .tuple #[.agg #[.int .i64 0, .slice none 0 0], .bool false]) (by simp [results, Try.results23, go_sem, d0, d1]) rfl ⟨_, rfl, OwnSS.nil _ _ _ _ _, (bw.setCell (by simp) _).setCell (by simp) _⟩

end Go.Proofs.Ytelilimkcboioaa
