/- The statement FnResults: the law returns true for every input, and every input reads behind the call as it read before. No condition. -/
import Derived.Test.YtldhbbbkfnfhoaaRows
import Derived.Test.YtldhbbbkfnfhoaaResQ
import Derived.Test.YtldhbbbkfnfhoaaResC
import Derived.Test.YtldhbbbkfnfhoaaTopC
import Derived.Test.YtldhbbbkfnfhoaaNet3
import Derived.Test.YtldhbbbkfnfhoaaMk
import Derived.Test.YtldhbbbkfnfhoaaMkO
import Derived.Test.YtldhbbbkfnfhoaaResOf
import Derived.Test.YtldhbbbkfnfhoaaAfter
import Derived.Test.YtldhbbbkfnfhoaaRenM
import Derived.Test.YtldhbbbkfnfhoaaKnown2
import Derived.Test.YtldhbbbkfnfhoaaFits2
import Derived.Test.YtldhbbbkfnfhoaaClusters
import Derived.Test.YtldhbbbkfnfhoaaWithin
import Derived.Test.YtldhbbbkfnfhoaaAllMasks
import Derived.Test.YtldhbbbkfnfhoaaUns2
import Derived.Test.YtldhbbbkfnfhoaaAppNet2
import Derived.Test.YtldhbbbkfnfhoaaMasks
import Derived.Test.YtldhbbbkfnfhoaaNums
namespace Go.Proofs.Ytldhbbbkfnfhoaa.fnResults
open Go.ChangeShapes Go.WideShapes Go.ChangeAt Go.RowKit Go.Proofs.Ytldhbbbkfnfhoaa
open Go.ChangeMaps (open_string shut_string)
set_option linter.unusedVariables false

set_option maxHeartbeats 16000000 in
set_option maxRecDepth 100000 in
theorem law (v0 : Value) (x0 : List Int) (w : World) (I0 : Bytes w v0 x0) :
    Calls Try.prog 3 #[v0] w fun e w' => e = .returned (.bool true) ∧ Below w.heap.size w w' := by
  have HI := Lib.hid I0
  obtain ⟨ao, cap, hv, hcap, hmax, _, _⟩ := I0
  unfold maxLen at hmax
  by_cases hl : x0.length ≤ 1048576
  · have HN := Lib.hid (makeStandard w v0 x0 0 HI.out hl (by omega))
    have HML : Hid (∀ N W, N ≤ 8 → Below w.heap.size w W → Calls Try.prog 20 #[v0, .int .i64 60, .int .i64 (N : Nat)] W fun e w' => ∃ v l, e = .returned v ∧ l.length = N ∧ (∀ x ∈ l, -3 ≤ x ∧ x ≤ 8) ∧ OwnI tInt w' W.heap.size w'.heap.size v l ∧ Below W.heap.size W w') := fun N W hN hb => makeList W v0 x0 60 N (HI.out.keep (Below.keeps hb)) hl (by omega) hN
    have HMO : Hid (∀ N W, N ≤ 8 → Below w.heap.size w W → Calls Try.prog 15 #[v0, .int .i64 30, .int .i64 (N : Nat)] W fun e w' => ∃ v l, e = .returned v ∧ PermP N l ∧ OwnI tInt w' W.heap.size w'.heap.size v l ∧ Below W.heap.size W w') := fun N W hN hb => makeOrder W v0 x0 30 N (HI.out.keep (Below.keeps hb)) hl (by omega) hN
    subst hv
    go_enter Try.func3, Try.ntmps3
    try simp only [List.append]
    go_wp2_with fail
    refine HN.out.mono ?_; rintro e w1 ⟨N, v, ps, rfl, h1, h6, hpl, hpr, hst, OX, b1⟩
    have hp := hpr.psOk h1 (by omega) (by omega)
    have HP := Lib.hid hp
    have HST : Hid (StdL ps) := Lib.hid hst
    obtain ⟨a1, l1, c1, hv1⟩ := OX.shape
    subst hv1
    have HSZ : Hid ((rowsOf ps).length + sumLen (rowsOf ps) ≤ 1048576) := by show _ ≤ _; rw [rowsOf_length, sumLen_rowsOf]; omega
    have HN64 : Hid (In64 (N : Int)) := WalkArith.wf_i64 (by omega)
    have hpl1 : ps.length = l1 := by
      obtain ⟨ao4, cap4, hv4, _⟩ := pairs_open OX.intss
      simp only [Value.slice.injEq] at hv4
      omega
    subst hpl1
    have IX0 := OX.intss
    clear OX hpr hp hst
    have W2 : Below w1.heap.size w1 (w1.alloc (.cells #[.int .i64 N, .slice a1 ps.length c1] 25)) := (Below.refl _ _).alloc (Nat.le_refl _) _
    have B : Below w.heap.size w (w1.alloc (.cells #[.int .i64 N, .slice a1 ps.length c1] 25)) := b1.trans (W2.mono b1.size)
    have IX := IX0.keep (Below.keeps W2)
    have cx : (w1.alloc (.cells #[.int .i64 N, .slice a1 ps.length c1] 25)).cell? ⟨w1.heap.size, 0, none⟩ = some (.int .i64 N) := by simp [go_sem]
    have cy : (w1.alloc (.cells #[.int .i64 N, .slice a1 ps.length c1] 25)).cell? ⟨w1.heap.size, 1, none⟩ = some (.slice a1 ps.length c1) := by simp [go_sem]
    clear IX0 W2 b1
    go_wp2_with fail
    obtain ⟨w2, HW2⟩ : ∃ W, Hid (W = w1.alloc (.cells #[.int .i64 N, .slice a1 ps.length c1] 25)) := ⟨_, rfl⟩
    rw [← HW2.out] at B IX cx cy ⊢
    clear HW2
    have HEND := Lib.hid (setK_end HP.out)
    have HRF := Lib.hid (res_facts h6 HP.out HST.out ps.length)
    have hN64 : (2 : Nat) ^ N ≤ 64 := pow64 h6
    obtain ⟨r, HR⟩ : ∃ r, Hid (setK N ps ps.length = r) := ⟨_, Lib.hid rfl⟩
    rw [HR.out] at HEND HRF
    have hr64 := HRF.out.len
    have hr20 : r.length ≤ 1048576 := by omega
    refine (implResultsOf (N : Int) (.slice a1 ps.length c1) (rowsOf ps) _ HN64.out IX HSZ.out).mono ?_; rintro e y1 ⟨vIR, rfl, RIR, by1⟩
    rw [HEND.out] at RIR
    replace cx := Below.keeps by1 _ _ cx
    replace cy := Below.keeps by1 _ _ cy
    replace IX := IX.keep (Below.keeps by1)
    replace B := B.trans (by1.mono B.size)
    have IR := RIR.ints
    obtain ⟨aIR, cIR, hvIR, hcIR, hmIR, -⟩ := id IR
    subst hvIR
    clear by1 RIR
    go_wp2_with fail
    refine (implAllMasks_yes N _ h1 (by omega)).mono ?_; rintro e y2 ⟨vs0, rfl, RS, by2⟩
    rw [← setK_zero HP.out] at RS
    replace cx := Below.keeps by2 _ _ cx
    replace cy := Below.keeps by2 _ _ cy
    replace IX := IX.keep (Below.keeps by2)
    replace IR := IR.keep (Below.keeps by2)
    replace B := B.trans (by2.mono B.size)
    obtain ⟨q0, cs0, hvs, hcs0, hms0, -, -, hqs0, FS0⟩ := RS.fills (by have := setK_ge h6 HP.out HST.out 0; omega)
    have IS0 := Lib.hid RS.ints
    subst hvs
    have hms9 := setK_len_le N ps 0
    clear by2 RS FS0
    unfold maxLen at hms0
    obtain ⟨ao', cap', hv', hcap', hmax', hnil', hcell'⟩ := pairs_open IX
    simp only [Value.slice.injEq] at hv'
    obtain ⟨hv1, -, hv2⟩ := hv'
    subst hv1; subst hv2
    have HC := Lib.hid hcell'
    clear hcell' hnil'
    have HB0 := Lib.hid B
    have HIX := Lib.hid IX
    have HIR := Lib.hid IR
    have hcx := World.block_lt_of_cell? _ _ cx
    have HCX := Lib.hid cx
    have HCY := Lib.hid cy
    unfold maxLen at hmax'
    clear B IX IR cx
    go_wp2
    clear cy
    go_loopw [6, 33] (fun s i wr => ∃ k : Nat, k ≤ ps.length ∧ i = .int .i64 k ∧ ∃ (q c : Nat), s = .slice (some ⟨q, 0, none⟩) (setK N ps k).length c ∧ (setK N ps k).length ≤ c ∧ c ≤ 2 ^ 63 - 1 ∧ Hid (Ints wr s (setK N ps k)) ∧ Below y2.heap.size y2 wr) (fun _ i _ => ps.length - (intOf i).toNat)
    case atStart => exact ⟨0, Nat.zero_le _, rfl, q0, cs0, rfl, hcs0, hms0, IS0, Below.refl _ _⟩
    case round =>
      clear IS0
      obtain ⟨k, hk9, rfl, qs, cs, rfl, hcs, hms, HS, hb⟩ := hrel
      by_cases hlt : k < ps.length
      · obtain ⟨b, q, x, po, pc, rfl, hu, g1, g2, d0, d1⟩ := HC.out k hlt
        have c2 := Below.keeps hb _ _ hu
        have c3 := Below.keeps hb _ _ d0
        have c4 := Below.keeps hb _ _ d1
        unfold maxLen at g2
        obtain ⟨hia, hib, hne⟩ := HP.out.2.2.2 k hlt
        have HNX := Lib.hid (setK_next HP.out k hlt)
        have hl1 := setK_len_le N ps k
        have hl2 := setK_len_le N ps (k + 1)
        have hl3 := setK_len HP.out k hlt
        have hl4 := setK_ge h6 HP.out HST.out (k + 1)
        have hl5 := setK_ge h6 HP.out HST.out k
        have HMK := Lib.hid (tf_yes (setK_masks HP.out (k + 1)))
        have HWI := Lib.hid (tf_yes (setK_within HP.out HST.out k))
        have HS1 : Hid (∀ W, Below wr.heap.size wr W → Ints W (.slice (some ⟨qs, 0, none⟩) 1 cs) [0]) := fun W hW => setK_first HP.out HST.out k (by omega) (HS.out.keep (Below.keeps hW))
        have HAF : Hid (∀ W, Below wr.heap.size wr W → Calls Try.prog 7 #[.int .i64 N, .slice (some ⟨qs, 0, none⟩) (setK N ps k).length cs, .int .i64 ps[k].1, .int .i64 ps[k].2] W (GivesI W (setK N ps (k + 1)))) := fun W hW => by
          rw [← HNX.out]
          exact implAfterPair _ _ _ _ _ W HN64.out (HS.out.keep (Below.keeps hW)) (by omega) (WalkArith.wf_i64 (by omega)) (WalkArith.wf_i64 (by omega))
        clear hu d0 d1 HS HNX
        generalize ps[k].1 = ia at *
        generalize ps[k].2 = ib at *
        generalize (setK N ps k).length = n1 at *
        obtain ⟨n2, HN2⟩ : ∃ n2, Hid ((setK N ps (k + 1)).length = n2) := ⟨_, Lib.hid rfl⟩
        rw [HN2.out] at hl2 hl3 hl4
        have e1 : decide ((n2 : Int) > (n1 : Int)) = false := decide_eq_false (by omega)
        have e2 : decide ((n1 : Int) < (n2 : Int)) = false := decide_eq_false (by omega)
        have e3 : decide ((n2 : Int) < (N : Int) + 1) = false := decide_eq_false (by omega)
        have e4 : 1 ≤ cs := by omega
        go_wp2
        go_region_held3 (fun w' => (w'.cell? ⟨x, po, none⟩ = some (.int .i64 ia) ∧ w'.cell? ⟨x, po + 1, none⟩ = some (.int .i64 ib)) ∧ Below wr.heap.size wr w')
          (first | exact ⟨⟨c3, c4⟩, (Below.refl _ _).drew⟩ | exact held2_b (by assumption) (by assumption))
          (first | (go_at_call 7; refine (HAF.out _ (And.right (by assumption))).mono ?_; rintro e w3 ⟨v3, rfl, R3, b3⟩))
        all_goals
          have bW3 : Below wr.heap.size wr w3 := And.right (by assumption)
          obtain ⟨q3, c3', hv3, hc3, hm3, -, -, hq3, -⟩ := R3.fills (by rw [HN2.out]; omega)
          have I3 := R3.ints
          rw [hv3, HN2.out] at I3
          rw [hv3, HN2.out]
          rw [HN2.out] at hc3
          clear R3 b3 hv3
          unfold maxLen at hm3
          go_wp2_with fail
          refine (implMasksOk _ _ (setK N ps (k + 1)) _ I3).mono ?_; rintro e _ ⟨rfl, rfl⟩
          rw [HMK.out]
          go_wp2_with fail
          refine (implIsWithin _ _ _ (setK N ps (k + 1)) _ (HS1.out _ bW3) I3 (by rw [HN2.out]; omega)).mono ?_; rintro e w4 ⟨rfl, b4⟩
          rw [HWI.out]
          have I4 := Lib.hid (I3.keep (Below.keeps b4))
          have b5 := hb.trans ((bW3.trans (b4.mono bW3.size)).mono hb.size)
          clear I3 b4 bW3
          go_wp2
          go_roundw
          case rel => exact ⟨k + 1, by omega, by go_num, q3, c3', by rw [HN2.out], by rw [HN2.out]; exact hc3, hm3, I4, b5⟩
          case measure => simp [intOf]; omega
      · obtain rfl : k = ps.length := by omega
        rw [HR.out] at HS hcs ⊢
        have B := HB0.out.trans (hb.mono HB0.out.size)
        have IX := HIX.out.keep (Below.keeps hb)
        have IR := HIR.out.keep (Below.keeps hb)
        have cx := (hb.cell (p := ⟨w1.heap.size, 0, none⟩) hcx).trans HCX.out
        have cy := (hb.cell (p := ⟨w1.heap.size, 1, none⟩) hcx).trans HCY.out
        have IS := HS.out
        have hbx := hb
        clear hb hbx HB0 HIX HIR HCX HCY HS HC
        as_aux_lemma =>
          go_wp2_with fail
          refine (sameC _ _ _ _ _ IS IR).mono ?_; rintro e y3 ⟨rfl, by3⟩
          rw [tf_yes rfl]
          replace cx := Below.keeps by3 _ _ cx
          replace cy := Below.keeps by3 _ _ cy
          replace IX := IX.keep (Below.keeps by3)
          replace IR := IR.keep (Below.keeps by3)
          replace B := B.trans (by3.mono B.size)
          clear by3
          clear IS
          go_wp2_with fail
          refine (implClustersOf _ _ _ _ HN64.out IR hr20).mono ?_; rintro e y4 ⟨vC, rfl, RC, by4⟩
          replace cx := Below.keeps by4 _ _ cx
          replace cy := Below.keeps by4 _ _ cy
          replace IX := IX.keep (Below.keeps by4)
          replace IR := IR.keep (Below.keeps by4)
          replace B := B.trans (by4.mono B.size)
          obtain ⟨qC, cC, hvC, hcC, hmC, -, -, hqC, FC⟩ := RC.fills (by rw [HRF.out.clen]; omega)
          have IC := RC.ints
          rw [HRF.out.clen] at hvC hcC FC
          subst hvC
          unfold maxLen at hmC
          have k0 : y4.cell? ⟨qC, 0, none⟩ = some (.int .i64 1) := by have := FC.getD 0 (by omega); rwa [HRF.out.c0] at this
          have kN : y4.cell? ⟨qC, N, none⟩ = some (.int .i64 1) := by have := FC.getD N (by omega); rwa [HRF.out.cN] at this
          clear by4 RC FC
          have e1 : (((N + 1 : Nat) : Int) != (N : Int) + 1) = false := by simp
          have e2 : ((r.length : Int) != (r.length : Int)) = false := by simp
          go_wp2_with fail
          refine (sumC _ _ _ IC HRF.out.cbd (by rw [HRF.out.clen]; omega)).mono ?_; rintro e y5 ⟨rfl, by5⟩
          rw [HRF.out.csum]
          replace cx := Below.keeps by5 _ _ cx
          replace cy := Below.keeps by5 _ _ cy
          replace k0 := Below.keeps by5 _ _ k0
          replace kN := Below.keeps by5 _ _ kN
          replace IX := IX.keep (Below.keeps by5)
          replace IR := IR.keep (Below.keeps by5)
          replace IC := IC.keep (Below.keeps by5)
          replace B := B.trans (by5.mono B.size)
          clear by5
          clear IC
          have HB1 := Lib.hid B
          have HIX1 := Lib.hid IX
          have HIR1 := Lib.hid IR
          have hcx1 := World.block_lt_of_cell? _ _ cx
          have HCX1 := Lib.hid cx
          have HCY1 := Lib.hid cy
          clear B IX IR cx cy
          go_wp2
          clear k0 kN
          go_loopw [11] (fun i wr => ∃ k : Nat, k ≤ N + 1 ∧ i = .int .i64 k ∧ Below y5.heap.size y5 wr) (fun i _ => N + 1 - (intOf i).toNat)
          case atStart => exact ⟨0, Nat.zero_le _, rfl, Below.refl _ _⟩
          case round =>
            obtain ⟨k, hk9, rfl, hb⟩ := hrel
            by_cases hlt : k ≤ N
            · have f1 : decide ((k : Int) ≤ (N : Int)) = true := decide_eq_true (by omega)
              have HSM := Lib.hid (smN_at h1 h6 hlt)
              have HHA := Lib.hid (tf_yes (HRF.out.has k hlt))
              go_wp2_with fail
              refine (implSm _ _ _).mono ?_; rintro e _ ⟨rfl, rfl⟩
              rw [HSM.out]
              go_wp2_with fail
              refine (hasC _ _ _ _ (HIR1.out.keep (Below.keeps hb))).mono ?_; rintro e w3 ⟨rfl, b3⟩
              rw [HHA.out]
              have b4 := hb.trans (b3.mono hb.size)
              clear b3
              go_wp2
              go_roundw
              case rel => exact ⟨k + 1, by omega, by go_num, b4⟩
              case measure => simp [intOf]; omega
            · have f1 : decide ((k : Int) ≤ (N : Int)) = false := decide_eq_false (by omega)
              have B := HB1.out.trans (hb.mono HB1.out.size)
              have IX := HIX1.out.keep (Below.keeps hb)
              have IR := HIR1.out.keep (Below.keeps hb)
              have cx := (hb.cell (p := ⟨w1.heap.size, 0, none⟩) hcx1).trans HCX1.out
              have cy := (hb.cell (p := ⟨w1.heap.size, 1, none⟩) hcx1).trans HCY1.out
              clear hb HB1 HIX1 HIR1 HCX1 HCY1
              as_aux_lemma =>
                go_wp2_with fail
                refine (HMO.out N _ (by omega) B).mono ?_; rintro e y6 ⟨vO, names, rfl, hPN, RO, by6⟩
                replace cx := Below.keeps by6 _ _ cx
                replace cy := Below.keeps by6 _ _ cy
                replace IX := IX.keep (Below.keeps by6)
                replace IR := IR.keep (Below.keeps by6)
                replace B := B.trans (by6.mono B.size)
                have IO := RO.ints
                obtain ⟨aIO, cIO, hvIO, hcIO, hmIO, -⟩ := id IO
                subst hvIO
                have hnl : names.length = N := hPN.1
                rw [hnl] at IO hcIO
                have HRE := Lib.hid (ren_facts h6 HRF.out.masks (by rw [← HR.out]; exact setK_nodup N ps _) hPN)
                clear by6 RO
                go_wp2_with fail
                refine (implRenamedMasks _ _ _ _ _ _ HN64.out IR hr20 IO (by omega)).mono ?_; rintro e y7 ⟨vM, rfl, RM, by7⟩
                replace cx := Below.keeps by7 _ _ cx
                replace cy := Below.keeps by7 _ _ cy
                replace IX := IX.keep (Below.keeps by7)
                replace IR := IR.keep (Below.keeps by7)
                replace B := B.trans (by7.mono B.size)
                have IM := RM.ints
                obtain ⟨aIM, cIM, hvIM, hcIM, hmIM, -⟩ := id IM
                rw [HRE.out.len] at hvIM
                subst hvIM
                have hm20 : (rmN N r names).length ≤ 1048576 := by rw [HRE.out.len]; omega
                have e2 : ((r.length : Int) != (r.length : Int)) = false := by simp
                clear by7 RM IO
                by_cases h5 : N ≤ 5
                · have f5 : decide ((N : Int) ≤ 5) = true := decide_eq_true (by omega)
                  go_wp2_with fail
                  refine (implFitsInto _ _ (rmN N r names) _ r _ HN64.out IM hm20 IR hr20).mono ?_; rintro e y8 ⟨rfl, by8⟩
                  rw [tf_yes (HRE.out.to h5)]
                  replace cx := Below.keeps by8 _ _ cx
                  replace cy := Below.keeps by8 _ _ cy
                  replace IX := IX.keep (Below.keeps by8)
                  replace IR := IR.keep (Below.keeps by8)
                  replace IM := IM.keep (Below.keeps by8)
                  replace B := B.trans (by8.mono B.size)
                  clear by8
                  go_wp2_with fail
                  refine (implFitsInto _ _ r _ (rmN N r names) _ HN64.out IR hr20 IM hm20).mono ?_; rintro e y9 ⟨rfl, by9⟩
                  rw [tf_yes (HRE.out.back h5)]
                  replace cx := Below.keeps by9 _ _ cx
                  replace cy := Below.keeps by9 _ _ cy
                  replace IX := IX.keep (Below.keeps by9)
                  replace IR := IR.keep (Below.keeps by9)
                  replace IM := IM.keep (Below.keeps by9)
                  replace B := B.trans (by9.mono B.size)
                  clear by9
                  clear IM
                  go_wp2_with fail
                  refine (implKnownOrder (N : Int) (.slice a1 ps.length c1) (rowsOf ps) _ HN64.out IX HSZ.out).mono ?_; rintro e y10 ⟨vK, rfl, RK, by10⟩
                  replace cx := Below.keeps by10 _ _ cx
                  replace cy := Below.keeps by10 _ _ cy
                  replace IX := IX.keep (Below.keeps by10)
                  replace IR := IR.keep (Below.keeps by10)
                  replace B := B.trans (by10.mono B.size)
                  obtain ⟨aK, cK, hvK, hcK, hmK, hnilK, hcellK⟩ := id RK.intss
                  subst hvK
                  have HCK := Lib.hid hcellK
                  have hkl : (koN N (rowsOf ps)).length ≤ 36 := (known_facts (l := List.replicate N 0) h6 HP.out HST.out (by simp)).len
                  unfold maxLen at hmK
                  clear by10 RK hcellK hnilK
                  have HBB := Lib.hid B
                  have HIX := Lib.hid IX
                  have hcx9 := World.block_lt_of_cell? _ _ cx
                  clear B IX IR
                  go_wp2
                  go_region_held3 (fun w' => (w'.cell? ⟨w1.heap.size, 0, none⟩ = some (.int .i64 N) ∧ w'.cell? ⟨w1.heap.size, 1, none⟩ = some (.slice a1 ps.length c1)) ∧ Below y10.heap.size y10 w')
                    (first | exact ⟨⟨cx, cy⟩, (Below.refl _ _).drew⟩ | exact held2_b (by assumption) (by assumption))
                    (first | (go_at_call 20; refine (HML.out N _ (by omega) (HBB.out.trans (Below.mono (And.right (by assumption)) HBB.out.size))).mono ?_; rintro e wq ⟨vL, l, rfl, hll, -, OL, bq⟩) | (go_at_call 19; refine (implApplyNetwork (N : Int) (.slice a1 ps.length c1) (rowsOf ps) vL l _ HN64.out (HIX.out.keep (Below.keeps (And.right (by assumption)))) HSZ.out OL.ints (by omega)).mono ?_; rintro e wt ⟨vA, rfl, OA, bt⟩))
                  all_goals
                    as_aux_lemma =>
                    have cxy := And.left (by assumption : (wt.cell? ⟨w1.heap.size, 0, none⟩ = some (.int .i64 N) ∧ wt.cell? ⟨w1.heap.size, 1, none⟩ = some (.slice a1 ps.length c1)) ∧ Below y10.heap.size y10 wt)
                    have bT : Below y10.heap.size y10 wt := And.right (by assumption)
                    obtain ⟨cx2, cy2⟩ := cxy
                    have HKF := Lib.hid (known_facts h6 HP.out HST.out hll)
                    obtain ⟨outl, HO⟩ : ∃ out, Hid (anN N (rowsOf ps) l = out) := ⟨_, Lib.hid rfl⟩
                    rw [HO.out] at OA HKF
                    have hol : outl.length = N := by rw [← HO.out, anN_yes ⟨HP.out.netP, by omega⟩, apL_length, hll]
                    obtain ⟨qA, cA, hvA, hcA, hmA, -, -, hqA, FA⟩ := OA.fills (by omega)
                    rw [hol] at hvA hcA FA
                    subst hvA
                    unfold maxLen at hmA
                    have HFA := Lib.hid FA
                    have e3 : ((N : Int) != (N : Int)) = false := by simp
                    have HSK := Lib.hid (tf_congr HKF.out.srt)
                    have HSK2 : Hid (tf (SortP N (rowsOf ps)) = decide ((koN N (rowsOf ps)).length = N * (N - 1) / 2)) := HSK.out.trans tf_dec
                    have hquo := half_pairs N h1 h6
                    obtain ⟨hq1, hq2, hq3⟩ := hquo
                    obtain ⟨kl, HKL⟩ : ∃ kl, Hid ((koN N (rowsOf ps)).length = kl) := ⟨_, Lib.hid rfl⟩
                    rw [HKL.out] at HSK2 hkl hcK ⊢
                    obtain ⟨hf, HHF⟩ : ∃ hf : Nat, Hid (N * (N - 1) / 2 = hf) := ⟨_, Lib.hid rfl⟩
                    rw [HHF.out] at HSK2 hq2 hq3
                    have HE9 := Lib.hid (sort_test kl hf)
                    have BTb := bT
                    have IXt := HIX.out.keep (Below.keeps bT)
                    have BT := HBB.out.trans (bT.mono HBB.out.size)
                    clear OA FA OL HSK bT
                    go_wp2_with fail
                    refine (implIsSorting (N : Int) (.slice a1 ps.length c1) (rowsOf ps) _ HN64.out IXt HSZ.out).mono ?_; rintro e wu ⟨rfl, bu⟩
                    rw [HSK2.out]
                    have HBU := Lib.hid (BT.trans (bu.mono BT.size))
                    have hs9 := bu.size
                    have HFU : Hid (Fills tInt wt.heap.size qA cA wu N outl ∨ True) := .inr trivial
                    have FAu := HFA.out.below bu hqA
                    have HFAu := Lib.hid FAu
                    have HCKu : Hid (∀ k (h : k < (koN N (rowsOf ps)).length), ∃ b q x po pc i9 k9, aK = some ⟨b, q, none⟩ ∧ wu.cell? ⟨b, q + k, none⟩ = some (.slice (some ⟨x, po, none⟩) 2 pc) ∧ 2 ≤ pc ∧ pc ≤ 2 ^ 63 - 1 ∧ wu.cell? ⟨x, po, none⟩ = some (.int .i64 (i9 : Nat)) ∧ wu.cell? ⟨x, po + 1, none⟩ = some (.int .i64 (k9 : Nat)) ∧ i9 < N ∧ k9 < N ∧ outl.getD i9 0 ≤ outl.getD k9 0) := fun k hk => by
                      obtain ⟨b, q, u, hau, hu, hI⟩ := HCK.out k hk
                      obtain ⟨i9, k9, e9, hi9, hk9, hle⟩ := HKF.out.at' _ (List.getElem_mem hk)
                      rw [e9] at hI
                      obtain ⟨x, po, pc, rfl, g1, g2, d0, d1, _, _⟩ := ints_pair hI
                      have bb := BTb.trans (bu.mono BTb.size)
                      exact ⟨b, q, x, po, pc, i9, k9, hau, Below.keeps bb _ _ hu, g1, g2, Below.keeps bb _ _ d0, Below.keeps bb _ _ d1, hi9, hk9, hle⟩
                    rw [HKL.out] at HCKu
                    clear HFA FAu BT IXt bu HFU HCK BTb
                    go_wp2
                    · exfalso
                      rename_i hbad
                      by_cases e : kl = hf
                      · subst e; simp at hbad
                      · have e5 : ((kl : Int) == (hf : Int)) = false := by simp; omega
                        simp [e, e5] at hbad
                    rename_i hok K9 hK9
                    clear hok
                    go_loopw [179] (fun i wr => ∃ k : Nat, k ≤ kl ∧ i = .int .i64 k ∧ Below wu.heap.size wu wr) (fun i _ => kl - (intOf i).toNat)
                    case atStart => exact ⟨0, Nat.zero_le _, rfl, Below.refl _ _⟩
                    case round =>
                      obtain ⟨k, hk9, rfl, hb⟩ := hrel
                      by_cases hlt : k < kl
                      · obtain ⟨b, q, x, po, pc, ia, ib, rfl, hu, g1, g2, d0, d1, hia, hib, hle⟩ := HCKu.out k hlt
                        have m1 := Below.keeps hb _ _ hu
                        have m2 := Below.keeps hb _ _ d0
                        have m3 := Below.keeps hb _ _ d1
                        have FW := HFAu.out.below hb (by omega)
                        have m4 := FW.getD ia hia
                        have m5 := FW.getD ib hib
                        clear hu d0 d1 FW
                        generalize outl.getD ia 0 = ya at *
                        generalize outl.getD ib 0 = yb at *
                        have t1 : decide ((ia : Int) < 0) = false := decide_eq_false (by omega)
                        have t2 : decide ((ia : Int) ≥ (N : Int)) = false := decide_eq_false (by omega)
                        have t3 : decide ((ib : Int) < 0) = false := decide_eq_false (by omega)
                        have t4 : decide ((ib : Int) ≥ (N : Int)) = false := decide_eq_false (by omega)
                        have t5 : decide (ya > yb) = false := decide_eq_false (by omega)
                        have t6 : decide ((N : Int) ≤ (ia : Int)) = false := decide_eq_false (by omega)
                        have t7 : decide ((N : Int) ≤ (ib : Int)) = false := decide_eq_false (by omega)
                        have t8 : decide (yb < ya) = false := decide_eq_false (by omega)
                        go_wp2
                        go_quiet (fail)
                        go_wp2
                        go_roundw
                        case rel => exact ⟨k + 1, by omega, by go_num, below_drewN hb _⟩
                        case measure => simp [intOf]; omega
                      · go_wp2
                        go_ret
                        exact ⟨rfl, HBU.out.trans (hb.mono HBU.out.size)⟩
                · have f5 : decide ((N : Int) ≤ 5) = false := decide_eq_false (by omega)
                  clear IM
                  go_wp2_with fail
                  refine (implKnownOrder (N : Int) (.slice a1 ps.length c1) (rowsOf ps) _ HN64.out IX HSZ.out).mono ?_; rintro e y11 ⟨vK, rfl, RK, by11⟩
                  replace cx := Below.keeps by11 _ _ cx
                  replace cy := Below.keeps by11 _ _ cy
                  replace IX := IX.keep (Below.keeps by11)
                  replace IR := IR.keep (Below.keeps by11)
                  replace B := B.trans (by11.mono B.size)
                  obtain ⟨aK, cK, hvK, hcK, hmK, hnilK, hcellK⟩ := id RK.intss
                  subst hvK
                  have HCK := Lib.hid hcellK
                  have hkl : (koN N (rowsOf ps)).length ≤ 36 := (known_facts (l := List.replicate N 0) h6 HP.out HST.out (by simp)).len
                  unfold maxLen at hmK
                  clear by11 RK hcellK hnilK
                  have HBB := Lib.hid B
                  have HIX := Lib.hid IX
                  have hcx9 := World.block_lt_of_cell? _ _ cx
                  clear B IX IR
                  go_wp2
                  go_region_held3 (fun w' => (w'.cell? ⟨w1.heap.size, 0, none⟩ = some (.int .i64 N) ∧ w'.cell? ⟨w1.heap.size, 1, none⟩ = some (.slice a1 ps.length c1)) ∧ Below y11.heap.size y11 w')
                    (first | exact ⟨⟨cx, cy⟩, (Below.refl _ _).drew⟩ | exact held2_b (by assumption) (by assumption))
                    (first | (go_at_call 20; refine (HML.out N _ (by omega) (HBB.out.trans (Below.mono (And.right (by assumption)) HBB.out.size))).mono ?_; rintro e wq ⟨vL, l, rfl, hll, -, OL, bq⟩) | (go_at_call 19; refine (implApplyNetwork (N : Int) (.slice a1 ps.length c1) (rowsOf ps) vL l _ HN64.out (HIX.out.keep (Below.keeps (And.right (by assumption)))) HSZ.out OL.ints (by omega)).mono ?_; rintro e wt ⟨vA, rfl, OA, bt⟩))
                  all_goals
                    as_aux_lemma =>
                    have cxy := And.left (by assumption : (wt.cell? ⟨w1.heap.size, 0, none⟩ = some (.int .i64 N) ∧ wt.cell? ⟨w1.heap.size, 1, none⟩ = some (.slice a1 ps.length c1)) ∧ Below y11.heap.size y11 wt)
                    have bT : Below y11.heap.size y11 wt := And.right (by assumption)
                    obtain ⟨cx2, cy2⟩ := cxy
                    have HKF := Lib.hid (known_facts h6 HP.out HST.out hll)
                    obtain ⟨outl, HO⟩ : ∃ out, Hid (anN N (rowsOf ps) l = out) := ⟨_, Lib.hid rfl⟩
                    rw [HO.out] at OA HKF
                    have hol : outl.length = N := by rw [← HO.out, anN_yes ⟨HP.out.netP, by omega⟩, apL_length, hll]
                    obtain ⟨qA, cA, hvA, hcA, hmA, -, -, hqA, FA⟩ := OA.fills (by omega)
                    rw [hol] at hvA hcA FA
                    subst hvA
                    unfold maxLen at hmA
                    have HFA := Lib.hid FA
                    have e3 : ((N : Int) != (N : Int)) = false := by simp
                    have HSK := Lib.hid (tf_congr HKF.out.srt)
                    have HSK2 : Hid (tf (SortP N (rowsOf ps)) = decide ((koN N (rowsOf ps)).length = N * (N - 1) / 2)) := HSK.out.trans tf_dec
                    have hquo := half_pairs N h1 h6
                    obtain ⟨hq1, hq2, hq3⟩ := hquo
                    obtain ⟨kl, HKL⟩ : ∃ kl, Hid ((koN N (rowsOf ps)).length = kl) := ⟨_, Lib.hid rfl⟩
                    rw [HKL.out] at HSK2 hkl hcK ⊢
                    obtain ⟨hf, HHF⟩ : ∃ hf : Nat, Hid (N * (N - 1) / 2 = hf) := ⟨_, Lib.hid rfl⟩
                    rw [HHF.out] at HSK2 hq2 hq3
                    have HE9 := Lib.hid (sort_test kl hf)
                    have BTb := bT
                    have IXt := HIX.out.keep (Below.keeps bT)
                    have BT := HBB.out.trans (bT.mono HBB.out.size)
                    clear OA FA OL HSK bT
                    go_wp2_with fail
                    refine (implIsSorting (N : Int) (.slice a1 ps.length c1) (rowsOf ps) _ HN64.out IXt HSZ.out).mono ?_; rintro e wu ⟨rfl, bu⟩
                    rw [HSK2.out]
                    have HBU := Lib.hid (BT.trans (bu.mono BT.size))
                    have hs9 := bu.size
                    have HFU : Hid (Fills tInt wt.heap.size qA cA wu N outl ∨ True) := .inr trivial
                    have FAu := HFA.out.below bu hqA
                    have HFAu := Lib.hid FAu
                    have HCKu : Hid (∀ k (h : k < (koN N (rowsOf ps)).length), ∃ b q x po pc i9 k9, aK = some ⟨b, q, none⟩ ∧ wu.cell? ⟨b, q + k, none⟩ = some (.slice (some ⟨x, po, none⟩) 2 pc) ∧ 2 ≤ pc ∧ pc ≤ 2 ^ 63 - 1 ∧ wu.cell? ⟨x, po, none⟩ = some (.int .i64 (i9 : Nat)) ∧ wu.cell? ⟨x, po + 1, none⟩ = some (.int .i64 (k9 : Nat)) ∧ i9 < N ∧ k9 < N ∧ outl.getD i9 0 ≤ outl.getD k9 0) := fun k hk => by
                      obtain ⟨b, q, u, hau, hu, hI⟩ := HCK.out k hk
                      obtain ⟨i9, k9, e9, hi9, hk9, hle⟩ := HKF.out.at' _ (List.getElem_mem hk)
                      rw [e9] at hI
                      obtain ⟨x, po, pc, rfl, g1, g2, d0, d1, _, _⟩ := ints_pair hI
                      have bb := BTb.trans (bu.mono BTb.size)
                      exact ⟨b, q, x, po, pc, i9, k9, hau, Below.keeps bb _ _ hu, g1, g2, Below.keeps bb _ _ d0, Below.keeps bb _ _ d1, hi9, hk9, hle⟩
                    rw [HKL.out] at HCKu
                    clear HFA FAu BT IXt bu HFU HCK BTb
                    go_wp2
                    · exfalso
                      rename_i hbad
                      by_cases e : kl = hf
                      · subst e; simp at hbad
                      · have e5 : ((kl : Int) == (hf : Int)) = false := by simp; omega
                        simp [e, e5] at hbad
                    rename_i hok K9 hK9
                    clear hok
                    go_loopw [179] (fun i wr => ∃ k : Nat, k ≤ kl ∧ i = .int .i64 k ∧ Below wu.heap.size wu wr) (fun i _ => kl - (intOf i).toNat)
                    case atStart => exact ⟨0, Nat.zero_le _, rfl, Below.refl _ _⟩
                    case round =>
                      obtain ⟨k, hk9, rfl, hb⟩ := hrel
                      by_cases hlt : k < kl
                      · obtain ⟨b, q, x, po, pc, ia, ib, rfl, hu, g1, g2, d0, d1, hia, hib, hle⟩ := HCKu.out k hlt
                        have m1 := Below.keeps hb _ _ hu
                        have m2 := Below.keeps hb _ _ d0
                        have m3 := Below.keeps hb _ _ d1
                        have FW := HFAu.out.below hb (by omega)
                        have m4 := FW.getD ia hia
                        have m5 := FW.getD ib hib
                        clear hu d0 d1 FW
                        generalize outl.getD ia 0 = ya at *
                        generalize outl.getD ib 0 = yb at *
                        have t1 : decide ((ia : Int) < 0) = false := decide_eq_false (by omega)
                        have t2 : decide ((ia : Int) ≥ (N : Int)) = false := decide_eq_false (by omega)
                        have t3 : decide ((ib : Int) < 0) = false := decide_eq_false (by omega)
                        have t4 : decide ((ib : Int) ≥ (N : Int)) = false := decide_eq_false (by omega)
                        have t5 : decide (ya > yb) = false := decide_eq_false (by omega)
                        have t6 : decide ((N : Int) ≤ (ia : Int)) = false := decide_eq_false (by omega)
                        have t7 : decide ((N : Int) ≤ (ib : Int)) = false := decide_eq_false (by omega)
                        have t8 : decide (yb < ya) = false := decide_eq_false (by omega)
                        go_wp2
                        go_quiet (fail)
                        go_wp2
                        go_roundw
                        case rel => exact ⟨k + 1, by omega, by go_num, below_drewN hb _⟩
                        case measure => simp [intOf]; omega
                      · go_wp2
                        go_ret
                        exact ⟨rfl, HBU.out.trans (hb.mono HBU.out.size)⟩
  · subst hv
    go_enter Try.func3, Try.ntmps3
    go_wp2
    go_ret
    exact ⟨rfl, Below.refl _ _⟩


set_option maxRecDepth 100000 in
theorem lifted (os : Os) (started : os.Started) (H : Type) (enc : TypeId × Value → H) :
    ReturnsInHanded {} Try.checked os 3 .any (Rows.fnResultsSpec.pre6 enc Try.prog Try.f3 Rows.fnResultsRow.domain false) (Rows.fnResultsSpec.post enc Try.prog Try.f3 false true false false) := by
  refine returnsInHanded_of_change (C := Try.checked) own started (by kernel_rfl) Try.func3
    (ChangeSpec.witness6 (enc := enc) (C := Try.checked) false ⟨#[], #[.slice none 0 0], []⟩ 8 (by kernel_rfl) (by kernel_rfl) (by kernel_rfl) (by kernel_rfl)) ?_
  intro W base args ds gs before hval0 hW hcnd _
  have hval : ∀ (j : Nat) t v, Try.f3.params[j]? = some t → args[j]? = some v → Value.okWide Try.prog W .any base t v := hval0
  have hW' := hW
  obtain ⟨p, q, hA0, hV, rfl, hfz, hnd⟩ := hW
  have hA : DataW.TrodAll enc Try.prog W 0 (fun _ => true) true Try.f3.params.toList args.toList ds p := hA0
  rw [Try.params3] at hA hval
  obtain ⟨v0, vs0, d0, ds0, p0, q0, hargs, rfl, rfl, h0, r0⟩ := trodAll_cons hA
  obtain ⟨rfl, rfl, rfl⟩ := trodAll_nil r0
  obtain rfl : args = #[v0] := by cases args; simp_all
  obtain ⟨rfl, rfl⟩ := trodVars_none hV
  have k0 := h0
  have lt0 : ∀ x ∈ p0, x.block < W.heap.size := by obtain ⟨m, hm⟩ := k0; exact DataW.trod_lt m _ _ _ hm
  obtain ⟨x0, w0⟩ := Bytes.of_trod Try.underlying22 Try.underlying5 cellsByte (hval 0 22 v0 rfl rfl) h0
  clear hA0 hval0
  refine (law v0 x0 W w0).mono fun e W' ⟨he, bel⟩ => ?_
  subst he
  exact ⟨_, rfl, _, _, _, [], _, [], hW', trodAll_mk1 (shut_bool Try.underlying4 _), (trodAll_cons_mk (Below.trod laidOut (by kernel_rfl) (of_decide_eq_true (by kernel_rfl)) k0 bel lt0) trodAll_mk0), rfl, bel.frame _, fun h => by cases h⟩

theorem band {a b : Bool} (h1 : a = true) (h2 : b = true) : (a && b) = true := by subst h1; subst h2; rfl
set_option maxHeartbeats 4000000 in
/-- The closed facts of the program, each checked by itself. -/
theorem joined : joinedFacts Try.prog 3 Try.f3 Rows.fnResultsSpec Rows.fnResultsRow = true := by
  unfold joinedFacts
  repeat' (with_reducible apply band)
  all_goals (as_aux_lemma => kernel_rfl)

theorem over : Rows.fnResultsRow.holds Try.pinned (OpenSpec.ofChange Rows.fnResultsSpec) :=
  OpenClaim.holds_of_wide 3 Try.f3 rfl rfl rfl rfl rfl rfl rfl ⟨rfl, rfl, rfl, rfl, rfl⟩ rfl rfl rfl rfl rfl (by as_aux_lemma => kernel_rfl) Try.func3 joined
    (of_decide_eq_true (by as_aux_lemma => kernel_rfl)) (by unfold Func.isWrapper; first | (rw [if_pos (by decide +kernel)]; kernel_rfl) | (rw [if_neg (by decide +kernel)]; exact ⟨rfl, rfl⟩))
    (fun os started H enc _ => lifted os started H enc)

theorem proved : Rows.FnResultsSaid := over
end Go.Proofs.Ytldhbbbkfnfhoaa.fnResults
