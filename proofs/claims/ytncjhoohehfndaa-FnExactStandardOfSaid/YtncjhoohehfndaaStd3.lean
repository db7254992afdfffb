/- Contracts: StandardOf, the program's. -/
import Derived.Test.YtncjhoohehfndaaStd2
namespace Go.Proofs.Ytncjhoohehfndaa
open Go.RowKit
set_option linter.unusedVariables false
theorem setg1 (ys : List Int) (i j : Nat) (a b : Int) (hi : i < ys.length) (hij : i ≠ j) : ((ys.set i a).set j b).getD i 0 = a := by
  rw [List.getD_eq_getElem?_getD, List.getElem?_set_ne (Ne.symm hij), List.getElem?_set_self hi]; rfl
theorem setg2 (ys : List Int) (i j : Nat) (a b : Int) (hj : j < ys.length) : ((ys.set i a).set j b).getD j 0 = b := by
  rw [List.getD_eq_getElem?_getD, List.getElem?_set_self (by simpa using hj)]; rfl

set_option maxHeartbeats 4000000 in
set_option maxRecDepth 100000 in
theorem implStandardOf (n : Int) (v : Value) (rows : List (List Int)) (w : World) (hn : (Lit.int .i64 n).wf = true) (h : IntSS w v rows) (hl : rows.length + sumLen rows ≤ 1048576) :
    Calls Try.prog 10 #[.agg #[.int .i64 n, v]] w (GivesStd w (nbN (StP n rows) n) (nbR (StP n rows) (stdR n rows)) (nbI (StP n rows) (stdI n rows)) (tf (StP n rows))) := by
  have hk : Hid (∀ W, Below w.heap.size w W → IntSS W v rows) := fun W hb => h.keep (Below.keeps hb)
  obtain ⟨ao, cap, hv, hcap, hmax, _⟩ := h
  unfold maxLen at hmax
  clear hn hl
  rcases Classical.em (NetP n rows) with hN | hN
  · have ht := tf_yes hN
    have h60 := hN.2.1
    have hN0 := hN
    obtain ⟨N, rfl, hr, hp⟩ := hN.pairs
    have HN := Lib.hid hN0
    have HP := Lib.hid hp
    have HR := Lib.hid hr
    have hN8 := hp.2.1
    have hN1 := hp.1
    have hpl : (pairsOf rows).length = rows.length := by rw [pairsOf, List.length_map]
    have HL := Lib.hid hpl
    subst hv
    clear hN hN0 hp hr hpl
    have hP : StP N rows := ⟨HN.out, trivial⟩
    rw [nbN_yes hP, nbR_yes hP, nbI_yes hP, tf_yes hP]
    have HE1 : Hid (stdR (N : Int) rows = stR (pairsOf rows) (idL N) rows.length) := by show _ = _; simp [stdR]
    have HE2 : Hid (stdI (N : Int) rows = apTo (pairsOf rows) (idL N) rows.length) := by show _ = _; simp [stdI]
    rw [HE1.out, HE2.out]
    clear hP HN HE1 HE2
    go_enter Try.func10, Try.ntmps10
    go_wp2_with fail
    refine (implNetworkOk _ _ rows _ (hk.out _ (((Below.refl _ _).alloc (Nat.le_refl _) _).alloc (by simp) _))).mono ?_; rintro e w1 ⟨rfl, b1⟩
    have r1 := (ResC.start (w.alloc (.cells #[.int .i64 N, .slice ao rows.length cap] 26)) 26).below b1 (by simp)
    rw [World.size_alloc] at r1
    have cx : w1.cell? ⟨w.heap.size, 0, none⟩ = some (.int .i64 N) := (b1.cell (by simp; omega)).trans (by simp [go_sem])
    have cy : w1.cell? ⟨w.heap.size, 1, none⟩ = some (.slice ao rows.length cap) := (b1.cell (by simp; omega)).trans (by simp [go_sem])
    have bw1 : Below w.heap.size w w1 := (((Below.refl _ _).alloc (Nat.le_refl _) _).alloc (by simp) _).trans (b1.mono (by simp; omega))
    have s1 : w.heap.size + 2 ≤ w1.heap.size := by have := b1.size; simpa using this
    have y1 : w.heap.size < w1.heap.size := by omega
    have y2 : w.heap.size + 1 < w1.heap.size := by omega
    go_wp2
    go_loopw [5, 17] (fun o i wr => ∃ k : Nat, k ≤ N ∧ i = .int .i64 k ∧ OwnI tInt wr w1.heap.size wr.heap.size o (idL k) ∧ Below w1.heap.size w1 wr) (fun _ i _ => N - (intOf i).toNat)
    case atStart => exact ⟨0, Nat.zero_le _, rfl, OwnI.lit0 3 w1 w1.heap.size (Nat.le_refl _), (Below.refl _ _).alloc (Nat.le_refl _) _⟩
    case round =>
      obtain ⟨k, hk9, rfl, hown, hb⟩ := hrel
      have hs := hb.size
      by_cases hlt : k < N
      · have HX := Lib.hid (idL_next k)
        have hl := idL_length k
        go_wp2_with (at_builtin; refine wpList_append1_at _ rfl _ _ 27 rfl 3 (.int .i64 0) 8 Try.underlying27 infoInt (by decide) rfl w1.heap.size wr.heap.size _ _ rfl (hown.1.alloc _) ⟨wr.heap.size, 0, none⟩ 1 (.int .i64 k) rfl (cell_alloc0 _ _ _) rfl ?_ ?_ ?_)
        · simp; omega
        · simp; omega
        · intro v' w3 hown' hgr hat
          have R1 := OwnI.snoc hown' hown.2 (show In64 (k : Int) from WalkArith.wf_i64 (by omega))
          rw [← HX.out] at R1
          have R2 := below_app (hb.alloc hs _) (hown.1.alloc _) hgr (Nat.le_refl _) (by simp; omega)
          clear hown hown' hgr hat
          go_wp2
          go_roundw
          case rel => exact ⟨k + 1, by omega, by go_num, R1, R2⟩
          case measure => simp [intOf]; omega
      · obtain rfl : N = k := by omega
        obtain ⟨w2, rfl⟩ : ∃ w2 : World, w2 = wr := ⟨_, rfl⟩
        have R2 := hown
        have b2 := hb
        clear hown hb hs
        obtain ⟨g, gc, rfl, hg1, hg2, hg3, hg4, hg5, F0⟩ := R2.fills (by rw [idL_length]; omega)
        rw [idL_length] at hg1 F0 ⊢
        unfold maxLen at hg2
        have s29 := b2.size
        have F0 := F0.lower (base' := w.heap.size) (by omega)
        have bWN := bw1.trans (b2.mono (by omega))
        have rWN := r1.below b2 (by omega)
        have cx2 := Below.keeps b2 _ _ cx
        have cy2 := Below.keeps b2 _ _ cy
        have y3 : w.heap.size < w2.heap.size := by omega
        clear R2
        obtain ⟨W1, HW1⟩ : ∃ W, Hid (W = w2.alloc (.cells #[.int .i64 N, .slice none 0 0] 26)) := ⟨_, rfl⟩
        have bO : Below w2.heap.size w2 W1 := by rw [HW1.out]; exact (Below.refl _ _).alloc (Nat.le_refl _) _
        have hS : NetIn w2.heap.size (w2.heap.size + 1) N [] W1 (.slice none 0 0) := by rw [HW1.out]; exact NetIn.start _ _ _
        have bwW : Below w.heap.size w W1 := bWN.trans (bO.mono (by omega))
        have rW := rWN.below bO (by omega)
        have F1 := F0.below bO (by omega)
        have hI : IntSS w (.slice ao rows.length cap) (rowsOf (pairsOf rows)) := by rw [← HR.out]; exact hk.out w (Below.refl _ _)
        obtain ⟨ao', cap', hv', _, _, hnil, hcell⟩ := pairs_open hI
        simp only [Value.slice.injEq] at hv'
        obtain ⟨hv1, -, hv2⟩ := hv'
        subst hv1; subst hv2
        have HC := Lib.hid hcell; clear hcell hI
        have s2 : w2.heap.size + 1 ≤ W1.heap.size := by rw [HW1.out]; simp
        have HID := Lib.hid (idL_in N hN8)
        obtain ⟨i0, hi, hz0, hz1, hz2⟩ := info_parts infoInts
        clear F0
        go_wp2
        rw [← HW1.out]
        clear HW1
        go_loopw [31] (fun i wr => ∃ k : Nat, k ≤ rows.length ∧ i = .int .i64 k ∧ ∃ (u : Value), Hid (NetIn w2.heap.size (w2.heap.size + 1) N (stR (pairsOf rows) (idL N) k) wr u) ∧ Hid (Fills tInt w.heap.size g gc wr N (apTo (pairsOf rows) (idL N) k)) ∧ Below w.heap.size w wr ∧ Hid (ResC (w.heap.size + 1) wr)) (fun i _ => rows.length - (intOf i).toNat)
        case atStart => exact ⟨0, Nat.zero_le _, rfl, _, Lib.hid hS, Lib.hid F1, bwW, Lib.hid rW⟩
        case round =>
          obtain ⟨k, hk9, rfl, u, HN, HF, hb, HRC⟩ := hrel
          by_cases hlt : k < rows.length
          · have hlp : k < (pairsOf rows).length := by rw [HL.out]; exact hlt
            obtain ⟨b, q, x, po, pc, rfl, hu, g1, g2, d0, d1⟩ := HC.out k hlp
            have c1 := Below.keeps hb _ _ hu
            have c2 := Below.keeps hb _ _ d0
            have c3 := Below.keeps hb _ _ d1
            have hxw : x < w.heap.size := World.block_lt_of_cell? w _ d0
            have hbw : b < w.heap.size := World.block_lt_of_cell? w _ hu
            have hxg : x ≠ g := by omega
            have hbg : b ≠ g := by omega
            unfold maxLen at g2
            have HD0 := Lib.hid d0
            have HD1 := Lib.hid d1
            clear hu d0 d1
            have hgp : (pairsOf rows).getD k (0, 0) = (pairsOf rows)[k] := by rw [List.getD_eq_getElem?_getD, List.getElem?_eq_getElem hlp]; rfl
            obtain ⟨hia, hib, hne⟩ := HP.out.2.2.2 k hlp
            have HS1 : Hid (stR (pairsOf rows) (idL N) (k + 1) = stR (pairsOf rows) (idL N) k ++ [[min ((apTo (pairsOf rows) (idL N) k).getD (pairsOf rows)[k].1 0) ((apTo (pairsOf rows) (idL N) k).getD (pairsOf rows)[k].2 0), max ((apTo (pairsOf rows) (idL N) k).getD (pairsOf rows)[k].1 0) ((apTo (pairsOf rows) (idL N) k).getD (pairsOf rows)[k].2 0)]]) := by
              show _ ++ _ = _; rw [hgp]
            have HS2 : Hid (apTo (pairsOf rows) (idL N) (k + 1) = ((apTo (pairsOf rows) (idL N) k).set (pairsOf rows)[k].1 (min ((apTo (pairsOf rows) (idL N) k).getD (pairsOf rows)[k].1 0) ((apTo (pairsOf rows) (idL N) k).getD (pairsOf rows)[k].2 0))).set (pairsOf rows)[k].2 (max ((apTo (pairsOf rows) (idL N) k).getD (pairsOf rows)[k].1 0) ((apTo (pairsOf rows) (idL N) k).getD (pairsOf rows)[k].2 0))) := by
              show _ = _; rw [apTo_succ _ _ k hlp]; rfl
            have hln := apTo_length (pairsOf rows) (idL N) k
            rw [idL_length] at hln
            have hin := apTo_in (pairsOf rows) (idL N) HID.out k
            have F := HF.out
            clear HF
            generalize (pairsOf rows)[k].1 = ia at *
            generalize (pairsOf rows)[k].2 = ib at *
            generalize apTo (pairsOf rows) (idL N) k = ys at *
            have e1 := F.getD ia hia
            have e2 := F.getD ib hib
            have f3 := F.frozen ia
            have f4 := F.frozen ib
            have w1a := in64_getD hin ia
            have w1b := in64_getD hin ib
            have HY : Hid (ys.getD ia 0 = ys.getD ia 0 ∧ ys.length = N) := ⟨rfl, hln⟩
            obtain ⟨x1, X1⟩ : ∃ z, Hid (ys.getD ia 0 = z) := ⟨_, Lib.hid rfl⟩
            obtain ⟨x2, X2⟩ : ∃ z, Hid (ys.getD ib 0 = z) := ⟨_, Lib.hid rfl⟩
            rw [X1.out] at e1 w1a HS1 HS2
            rw [X2.out] at e2 w1b HS1 HS2
            clear hgp
            by_cases hgt : x1 > x2
            · have hd : decide (x1 > x2) = true := decide_eq_true hgt
              have hmin : min x1 x2 = x2 := by omega
              have hmax9 : max x1 x2 = x1 := by omega
              rw [hmin, hmax9] at HS1 HS2
              have F2 := F.set ia x2
              have f2 := F2.getD ib hib
              have f5 := F2.frozen ib
              have F3 := F2.set ib x1
              rw [← HS2.out] at F3
              have hN3 := (HN.out.low (g := g) (k := ia) (by omega) (.int .i64 x2)).low (g := g) (k := ib) (by omega) (.int .i64 x1)
              have hb3 : Below w.heap.size w ((wr.setCell ⟨g, ia, none⟩ (.int .i64 x2)).setCell ⟨g, ib, none⟩ (.int .i64 x1)) := (hb.setCell (by show w.heap.size ≤ g; omega) _).setCell (by show w.heap.size ≤ g; omega) _
              have r3 := (HRC.out.low (g := g) (k := ia) (by omega) (.int .i64 x2)).low (g := g) (k := ib) (by omega) (.int .i64 x1)
              have q5 := F3.getD ib hib
              have q4 := F3.getD ia hia
              rw [HS2.out] at q4 q5
              rw [setg1 ys ia ib x2 x1 (by omega) hne] at q4
              rw [setg2 ys ia ib x2 x1 (by omega)] at q5
              have hbx := hb
              clear F F2 HN HRC hb X1 X2 HY
              go_wp2
              go_region
              go_wp2
              go_region
              go_wp2
              obtain ⟨W3, HW3⟩ : ∃ W, Hid (W = ((wr.setCell ⟨g, ia, none⟩ (.int .i64 x2)).setCell ⟨g, ib, none⟩ (.int .i64 x1)).drew.drew) := ⟨_, rfl⟩
              have F4 : Fills tInt w.heap.size g gc W3 N (apTo (pairsOf rows) (idL N) (k + 1)) := by rw [HW3.out]; exact F3
              have hN4 : NetIn w2.heap.size (w2.heap.size + 1) N (stR (pairsOf rows) (idL N) k) W3 u := by rw [HW3.out]; exact hN3.drew.drew
              have hb4 : Below w.heap.size w W3 := by rw [HW3.out]; exact hb3.drew.drew
              have r4 : ResC (w.heap.size + 1) W3 := by rw [HW3.out]; exact r3
              have m2 : W3.cell? ⟨x, po, none⟩ = some (.int .i64 ia) := Below.keeps hb4 _ _ HD0.out
              have m3 : W3.cell? ⟨x, po + 1, none⟩ = some (.int .i64 ib) := Below.keeps hb4 _ _ HD1.out
              have m4 : W3.cell? ⟨g, ia, none⟩ = some (.int .i64 x2) := by rw [HW3.out]; exact q4
              have m5 : W3.cell? ⟨g, ib, none⟩ = some (.int .i64 x1) := by rw [HW3.out]; exact q5
              rw [← HW3.out]
              clear HW3 F3 hN3 hb3 r3
              obtain ⟨⟨vs, hO, hR⟩, cn, cu2, cf2, hB, hlo⟩ := hN4
              have HO := Lib.hid hO
              have HW := Lib.hid hR
              have HU : Hid (∀ g, g < w2.heap.size + 1 → some g ≠ u.ownBlock) := fun g hg e => by have := HO.out.lt e.symm; omega
              have hvl : vs.length ≤ 60 := by have := HW.out.1; rw [stR_length] at this; omega
              have hB2 : w2.heap.size < W3.heap.size := by omega
              have hB3 : w2.heap.size < W3.heap.size + 1 := by omega
              have HF4 := Lib.hid F4
              have HR4 := Lib.hid r4
              clear hO hR F4 r4
              try clear c1
              try clear c2
              try clear c3
              try clear e1
              try clear e2
              try clear f3
              try clear f4
              try clear f2
              try clear f5
              try clear q4
              try clear q5
              try clear hmin
              try clear hmax9
              try clear cx
              try clear cy
              try clear cx2
              try clear cy2
              try clear r1
              try clear rW
              try clear rWN
              try clear F1
              try clear F0
              try clear hS
              try clear b1
              try clear b2
              try clear bw1
              try clear bWN
              try clear bwW
              try clear hb
              try clear hbx
              try clear hd
              try clear hgt
              try clear hln
              try clear hin
              try clear hif
              try clear hs2
              try clear s29
              try clear hpl
              try clear hN1
              try clear hnil
              as_aux_lemma =>
                rw [show Op.load 22 (Operand.tmp 70) = ldOp 22 (Operand.tmp 70) from rfl]
                go_region_held3 (fun w' => w'.cell? ⟨x, po, none⟩ = some (.int .i64 ia) ∧ w'.cell? ⟨x, po + 1, none⟩ = some (.int .i64 ib) ∧ w'.cell? ⟨g, ia, none⟩ = some (.int .i64 x2) ∧ w'.cell? ⟨g, ib, none⟩ = some (.int .i64 x1)) ((go_split_ands; refine ⟨?_, ?_, ?_, ?_⟩ <;> (first | assumption | exact cell_al (by assumption) | exact cell_st (by assumption) (by first | (simp; done) | (simp; omega)) | exact cell_gr hgrow (by assumption) (HU.out _ (by first | (simp; done) | (simp; omega))) | exact Below.keeps b2 _ _ (by assumption)))) ((refine step_append_lies _ (by rfl) (.tmp 71) (.tmp 85) 22 (by rfl) (w2.heap.size + 1) tInts i0 (.slice none 0 0) 1 24 Try.underlying22 hi hz0 hz1 hz2 rfl (by decide) u vs.length vs (by first | rfl | simp [Act.eval]) (by exact (HO.out.1.alloc _ |>.alloc _)) ⟨W3.heap.size + 1, 0, none⟩ 1 1 [.slice (some ⟨W3.heap.size, 0, none⟩) 2 2] (by simp [Act.eval]) (by rfl) (by exact news_two _ _ _ _) (by simp [Value.oneCell']) (by decide) (by unfold maxLen; omega) (by omega) (by simp; omega) (W3.heap.size + 2) (by simp) ?_; intro g9 cap2 w9 hown hgrow hat hlt2; have zz := after_new (below_two _ _ _) hgrow cu2 cf2 (HU.out _ (by first | (simp; done) | (simp; omega))); obtain ⟨z1, z2⟩ := zz))
                all_goals
                  obtain ⟨P, Q⟩ := NetIn.push (n := N) (W1 := W3) HO.out HW.out cn cu2 cf2 hB hlo (below_two _ _ _) (pair_two _ x2 x1 w1b w1a _) (by simp) hown hgrow (Kept.refl _ _ _ (by omega))
                  rw [← HS1.out] at P
                  have F5 := Fills.keptX HF4.out Q (by omega) (by omega)
                  have r5 := ResC.keptX HR4.out Q (by omega) (by omega)
                  have b5 := hb4.trans (Q.1.mono (by omega))
                  clear hown hgrow hat hlt2 z1 z2 HO HW HF4 HR4 Q
                  go_wp2
                  go_roundw
                  case rel => exact ⟨k + 1, by omega, by go_num, _, Lib.hid P, Lib.hid F5, b5, Lib.hid r5⟩
                  case measure => first | (simp [intOf]; done) | (simp [intOf]; omega)
            · have hd : decide (x1 > x2) = false := decide_eq_false hgt
              have hmin : min x1 x2 = x1 := by omega
              have hmax9 : max x1 x2 = x2 := by omega
              rw [hmin, hmax9] at HS1 HS2
              have hif : (if x1 < x2 then x2 else x1) = x2 := by split <;> omega
              have HS3 : Hid ((ys.set ia x1).set ib x2 = ys) := by
                show _ = _
                apply List.ext_getElem
                · simp
                · intro j h1 h2
                  have hj1 : ia < ys.length := by omega
                  have hj2 : ib < ys.length := by omega
                  have z1 : x1 = ys[ia] := by rw [← X1.out, List.getD_eq_getElem?_getD, List.getElem?_eq_getElem hj1]; rfl
                  have z2 : x2 = ys[ib] := by rw [← X2.out, List.getD_eq_getElem?_getD, List.getElem?_eq_getElem hj2]; rfl
                  rw [List.getElem_set, List.getElem_set]
                  by_cases q2 : ib = j
                  · subst q2; rw [if_pos rfl]; exact z2
                  · rw [if_neg q2]
                    by_cases q1 : ia = j
                    · subst q1; rw [if_pos rfl]; exact z1
                    · rw [if_neg q1]
              have F3 : Fills tInt w.heap.size g gc wr N (apTo (pairsOf rows) (idL N) (k + 1)) := by rw [HS2.out, HS3.out]; exact F
              have hN3 := HN.out
              have r3 := HRC.out
              have hb3 := hb
              clear F HN HRC X1 X2 HY HS3
              go_wp2
              go_region
              go_wp2
              obtain ⟨W3, HW3⟩ : ∃ W, Hid (W = wr.drew) := ⟨_, rfl⟩
              have F4 : Fills tInt w.heap.size g gc W3 N (apTo (pairsOf rows) (idL N) (k + 1)) := by rw [HW3.out]; exact F3
              have hN4 : NetIn w2.heap.size (w2.heap.size + 1) N (stR (pairsOf rows) (idL N) k) W3 u := by rw [HW3.out]; exact hN3.drew
              have hb4 : Below w.heap.size w W3 := by rw [HW3.out]; exact hb3.drew
              have r4 : ResC (w.heap.size + 1) W3 := by rw [HW3.out]; exact r3
              have m2 : W3.cell? ⟨x, po, none⟩ = some (.int .i64 ia) := Below.keeps hb4 _ _ HD0.out
              have m3 : W3.cell? ⟨x, po + 1, none⟩ = some (.int .i64 ib) := Below.keeps hb4 _ _ HD1.out
              have m4 : W3.cell? ⟨g, ia, none⟩ = some (.int .i64 x1) := by rw [HW3.out]; exact e1
              have m5 : W3.cell? ⟨g, ib, none⟩ = some (.int .i64 x2) := by rw [HW3.out]; exact e2
              rw [← HW3.out]
              clear HW3 F3 hN3 hb3 r3
              obtain ⟨⟨vs, hO, hR⟩, cn, cu2, cf2, hB, hlo⟩ := hN4
              have HO := Lib.hid hO
              have HW := Lib.hid hR
              have HU : Hid (∀ g, g < w2.heap.size + 1 → some g ≠ u.ownBlock) := fun g hg e => by have := HO.out.lt e.symm; omega
              have hvl : vs.length ≤ 60 := by have := HW.out.1; rw [stR_length] at this; omega
              have hB2 : w2.heap.size < W3.heap.size := by omega
              have hB3 : w2.heap.size < W3.heap.size + 1 := by omega
              have HF4 := Lib.hid F4
              have HR4 := Lib.hid r4
              clear hO hR F4 r4
              try clear c1
              try clear c2
              try clear c3
              try clear e1
              try clear e2
              try clear f3
              try clear f4
              try clear f2
              try clear f5
              try clear q4
              try clear q5
              try clear hmin
              try clear hmax9
              try clear cx
              try clear cy
              try clear cx2
              try clear cy2
              try clear r1
              try clear rW
              try clear rWN
              try clear F1
              try clear F0
              try clear hS
              try clear b1
              try clear b2
              try clear bw1
              try clear bWN
              try clear bwW
              try clear hb
              try clear hbx
              try clear hd
              try clear hgt
              try clear hln
              try clear hin
              try clear hif
              try clear hs2
              try clear s29
              try clear hpl
              try clear hN1
              try clear hnil
              as_aux_lemma =>
                rw [show Op.load 22 (Operand.tmp 70) = ldOp 22 (Operand.tmp 70) from rfl]
                go_region_held3 (fun w' => w'.cell? ⟨x, po, none⟩ = some (.int .i64 ia) ∧ w'.cell? ⟨x, po + 1, none⟩ = some (.int .i64 ib) ∧ w'.cell? ⟨g, ia, none⟩ = some (.int .i64 x1) ∧ w'.cell? ⟨g, ib, none⟩ = some (.int .i64 x2)) ((go_split_ands; refine ⟨?_, ?_, ?_, ?_⟩ <;> (first | assumption | exact cell_al (by assumption) | exact cell_st (by assumption) (by first | (simp; done) | (simp; omega)) | exact cell_gr hgrow (by assumption) (HU.out _ (by first | (simp; done) | (simp; omega))) | exact Below.keeps b2 _ _ (by assumption)))) ((refine step_append_lies _ (by rfl) (.tmp 71) (.tmp 85) 22 (by rfl) (w2.heap.size + 1) tInts i0 (.slice none 0 0) 1 24 Try.underlying22 hi hz0 hz1 hz2 rfl (by decide) u vs.length vs (by first | rfl | simp [Act.eval]) (by exact (HO.out.1.alloc _ |>.alloc _)) ⟨W3.heap.size + 1, 0, none⟩ 1 1 [.slice (some ⟨W3.heap.size, 0, none⟩) 2 2] (by simp [Act.eval]) (by rfl) (by exact news_two _ _ _ _) (by simp [Value.oneCell']) (by decide) (by unfold maxLen; omega) (by omega) (by simp; omega) (W3.heap.size + 2) (by simp) ?_; intro g9 cap2 w9 hown hgrow hat hlt2; have zz := after_new (below_two _ _ _) hgrow cu2 cf2 (HU.out _ (by first | (simp; done) | (simp; omega))); obtain ⟨z1, z2⟩ := zz))
                all_goals
                  obtain ⟨P, Q⟩ := NetIn.push (n := N) (W1 := W3) HO.out HW.out cn cu2 cf2 hB hlo (below_two _ _ _) (pair_two _ x1 x2 w1a w1b _) (by simp) hown hgrow (Kept.refl _ _ _ (by omega))
                  rw [← HS1.out] at P
                  have F5 := Fills.keptX HF4.out Q (by omega) (by omega)
                  have r5 := ResC.keptX HR4.out Q (by omega) (by omega)
                  have b5 := hb4.trans (Q.1.mono (by omega))
                  clear hown hgrow hat hlt2 z1 z2 HO HW HF4 HR4 Q
                  go_wp2
                  go_roundw
                  case rel => exact ⟨k + 1, by omega, by go_num, _, Lib.hid P, Lib.hid F5, b5, Lib.hid r5⟩
                  case measure => first | (simp [intOf]; done) | (simp [intOf]; omega)
          · have hk' : k = rows.length := by omega
            subst hk'
            obtain ⟨hR, cn, cu, cf, hB, hlo⟩ := HN.out
            obtain ⟨d0, d1, f0, f1, _⟩ := HRC.out
            have hFI := HF.out
            obtain ⟨a3, l3, c3, hu⟩ := hR.shape
            subst hu
            obtain ⟨RR, BB⟩ := hR.res (R := w.heap.size + 1) (x := .int .i64 N) (y := .slice a3 l3 c3) (by omega) hb (by omega)
            have hz := hR.chg (chg_setCell wr (w.heap.size + 1) 0 (.int .i64 N)) (.inr (by omega))
            have hz2 : OwnSS tInt tInts ((wr.setCell ⟨w.heap.size + 1, 0, none⟩ (.int .i64 N)).setCell ⟨w.heap.size + 1, 1, none⟩ (.slice a3 l3 c3)) (w2.heap.size + 1) ((wr.setCell ⟨w.heap.size + 1, 0, none⟩ (.int .i64 N)).setCell ⟨w.heap.size + 1, 1, none⟩ (.slice a3 l3 c3)).heap.size (.slice a3 l3 c3) (stR (pairsOf rows) (idL N) rows.length) := by
              rw [size_setCell, size_setCell]; exact (hR.set (by omega) _).set (by omega) _
            have hT : OwnI tInt ((wr.setCell ⟨w.heap.size + 1, 0, none⟩ (.int .i64 N)).setCell ⟨w.heap.size + 1, 1, none⟩ (.slice a3 l3 c3)) w.heap.size (w2.heap.size + 1) (.slice (some ⟨g, 0, none⟩) N gc) (apTo (pairsOf rows) (idL N) rows.length) := by
              rcases (hFI.own (hi := w2.heap.size + 1) (by omega) (apTo_in _ _ HID.out _)).tight with ⟨hv, _⟩ | ⟨g', hg', _, _, _, ht⟩
              · cases hv
              · simp [Value.ownBlock] at hg'
                subst hg'
                exact ((ht.chg (chg_setCell wr (w.heap.size + 1) 0 _) (by omega)).chg (chg_setCell _ (w.heap.size + 1) 1 _) (by omega)).wide (by omega) (by omega)
            clear hR HN HF hFI hz HRC
            go_wp2
            exact bodyPost_ret (v := .tuple #[.agg #[.int .i64 N, .slice a3 l3 c3], .slice (some ⟨g, 0, none⟩) N gc, .bool true]) (by simp [results, Try.results10, go_sem, d0, d1]) rfl ⟨_, _, w2.heap.size + 1, rfl, hT, hz2, by omega, by rw [size_setCell, size_setCell]; omega, BB⟩
  · have ht := tf_no hN
    have hNP : ¬ StP n rows := fun h => hN (And.left h)
    rw [nbN_no hNP, nbR_no hNP, nbI_no hNP, tf_no hNP]
    subst hv
    clear hN hNP
    go_enter Try.func10, Try.ntmps10
    go_wp2_with fail
    refine (implNetworkOk _ _ rows _ (hk.out _ (((Below.refl _ _).alloc (Nat.le_refl _) _).alloc (by simp) _))).mono ?_; rintro e w1 ⟨rfl, b1⟩
    obtain ⟨d0, d1, f0, f1, _⟩ := (ResC.start (w.alloc (.cells #[.int .i64 n, .slice ao rows.length cap] 26)) 26).below b1 (by simp)
    rw [World.size_alloc] at d0 d1 f0 f1
    have bw : Below w.heap.size w w1 := (((Below.refl _ _).alloc (Nat.le_refl _) _).alloc (by simp) _).trans (b1.mono (by simp; omega))
    go_wp2
    exact bodyPost_ret (v := .tuple #[.agg #[.int .i64 0, .slice none 0 0], .slice none 0 0, .bool false]) (by simp [results, Try.results10, go_sem, d0, d1]) rfl ⟨_, _, w.heap.size, rfl, ⟨Own.nil _ _ _ _, by simp⟩, OwnSS.nil _ _ _ _ _, Nat.le_refl _, by rw [size_setCell, size_setCell]; exact bw.size, (bw.setCell (by simp) _).setCell (by simp) _⟩
end Go.Proofs.Ytncjhoohehfndaa
