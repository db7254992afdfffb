/- The statement FnTop: the law returns true for every input, and every input reads behind the call as it read before. No condition. -/
import Derived.Test.YtjinaiggpngieaaRows
import Derived.Test.YtjinaiggpngieaaTopQ
import Derived.Test.YtjinaiggpngieaaTopC
import Derived.Test.YtjinaiggpngieaaMk
import Derived.Test.YtjinaiggpngieaaMkO
import Derived.Test.YtjinaiggpngieaaApplyBits
import Derived.Test.YtjinaiggpngieaaUns2
import Derived.Test.YtjinaiggpngieaaResOf
import Derived.Test.YtjinaiggpngieaaFailing
import Derived.Test.YtjinaiggpngieaaStd
import Derived.Test.YtjinaiggpngieaaRises
import Derived.Test.YtjinaiggpngieaaAppNet2
import Derived.Test.YtjinaiggpngieaaMasks
namespace Go.Proofs.Ytjinaiggpngieaa.fnTop
open Go.ChangeShapes Go.WideShapes Go.ChangeAt Go.RowKit Go.Proofs.Ytjinaiggpngieaa
open Go.ChangeMaps (open_string shut_string)
set_option linter.unusedVariables false

set_option maxHeartbeats 8000000 in
set_option maxRecDepth 100000 in
theorem law (v0 : Value) (x0 : List Int) (w : World) (I0 : Bytes w v0 x0) :
    Calls Try.prog 3 #[v0] w fun e w' => e = .returned (.bool true) ∧ Below w.heap.size w w' := by
  have HI := Lib.hid I0
  obtain ⟨ao, cap, hv, hcap, hmax, _, _⟩ := I0
  unfold maxLen at hmax
  by_cases hl : x0.length ≤ 1048576
  · have HN := Lib.hid (makeNetwork w v0 x0 0 HI.out hl (by omega))
    have HML : Hid (∀ N W, N ≤ 8 → Below w.heap.size w W → Calls Try.prog 5 #[v0, .int .i64 20, .int .i64 (N : Nat)] W fun e w' => ∃ v l, e = .returned v ∧ l.length = N ∧ (∀ x ∈ l, -3 ≤ x ∧ x ≤ 8) ∧ OwnI tInt w' W.heap.size w'.heap.size v l ∧ Below W.heap.size W w') := fun N W hN hb => makeList W v0 x0 20 N (HI.out.keep (Below.keeps hb)) hl (by omega) hN
    have HMO : Hid (∀ N W, N ≤ 8 → Below w.heap.size w W → Calls Try.prog 23 #[v0, .int .i64 40, .int .i64 (N : Nat)] W fun e w' => ∃ v l, e = .returned v ∧ PermP N l ∧ OwnI tInt w' W.heap.size w'.heap.size v l ∧ Below W.heap.size W w') := fun N W hN hb => makeOrder W v0 x0 40 N (HI.out.keep (Below.keeps hb)) hl (by omega) hN
    subst hv
    go_enter Try.func3, Try.ntmps3
    simp only [List.append]
    go_wp2_with fail
    refine HN.out.mono ?_; rintro e w1 ⟨N, v, ps, rfl, h1, h6, hpl, hpr, OX, b1⟩
    have hp := hpr.psOk h1 (by omega) (by omega)
    have HP := Lib.hid hp
    have HBY := Lib.hid HI
    obtain ⟨a1, l1, c1, hv1⟩ := OX.shape
    subst hv1
    have hsz : (rowsOf ps).length + sumLen (rowsOf ps) ≤ 1048576 := by rw [rowsOf_length, sumLen_rowsOf]; omega
    have hn64 : In64 (N : Int) := WalkArith.wf_i64 (by omega)
    have HSZ := Lib.hid hsz
    have HN64 := Lib.hid hn64
    have IX0 := OX.intss
    clear OX hsz hn64 hpr hp HN HBY
    have W2 : Below w1.heap.size w1 (w1.alloc (.cells #[.int .i64 N, .slice a1 l1 c1] 25)) := (Below.refl _ _).alloc (Nat.le_refl _) _
    have B : Below w.heap.size w (w1.alloc (.cells #[.int .i64 N, .slice a1 l1 c1] 25)) := b1.trans (W2.mono b1.size)
    have IX := IX0.keep (Below.keeps W2)
    have cx : (w1.alloc (.cells #[.int .i64 N, .slice a1 l1 c1] 25)).cell? ⟨w1.heap.size, 0, none⟩ = some (.int .i64 N) := by simp [go_sem]
    have cy : (w1.alloc (.cells #[.int .i64 N, .slice a1 l1 c1] 25)).cell? ⟨w1.heap.size, 1, none⟩ = some (.slice a1 l1 c1) := by simp [go_sem]
    clear IX0 W2 b1
    go_wp2_with fail
    obtain ⟨w2, HW2⟩ : ∃ W, Hid (W = w1.alloc (.cells #[.int .i64 N, .slice a1 l1 c1] 25)) := ⟨_, rfl⟩
    rw [← HW2.out] at B IX cx cy ⊢
    clear HW2
    refine (HML.out N w2 (by omega) B).mono ?_; rintro e w3 ⟨vl, l, rfl, hll, hlb, OL, b3⟩
    have IL := OL.ints
    replace B := B.trans (b3.mono B.size)
    replace IX := IX.keep (Below.keeps b3)
    replace cx := Below.keeps b3 _ _ cx
    replace cy := Below.keeps b3 _ _ cy
    have HF := Lib.hid (top_facts (l := l) h6 HP.out hll)
    have hl8 : l.length ≤ 1048576 := by omega
    clear OL b3 hlb HML
    go_wp2_with fail
    refine (implApplyNetwork (N : Int) (.slice a1 l1 c1) (rowsOf ps) vl l _ HN64.out IX HSZ.out IL hl8).mono ?_; rintro e w4 ⟨vo, rfl, OO, b4⟩
    have HAP := Lib.hid (tf_yes HF.out.app)
    rw [HAP.out]
    obtain ⟨out, HO⟩ : ∃ out, Hid (anN N (rowsOf ps) l = out) := ⟨_, rfl⟩
    rw [HO.out] at OO
    have hol : out.length = N := by rw [← HO.out]; exact HF.out.len
    have hol8 : out.length ≤ 1048576 := by omega
    obtain ⟨a4, l4, c4, hv4⟩ := OO.shape
    subst hv4
    have hl4 : N = l4 := by
      obtain ⟨ao4, cap4, hv4, _⟩ := OO.ints
      simp only [Value.slice.injEq] at hv4
      omega
    subst hl4
    have IO := OO.ints
    replace cx := Below.keeps b4 _ _ cx
    replace cy := Below.keeps b4 _ _ cy
    replace IX := IX.keep (Below.keeps b4)
    replace IL := IL.keep (Below.keeps b4)
    replace B := B.trans (b4.mono B.size)
    clear b4 OO
    have HSO : Hid (tf (srtL out = srtL l) = true) := tf_yes (p := srtL out = srtL l) (by rw [← HO.out]; exact HF.out.srt)
    have HNP := Lib.hid (tf_yes HF.out.net)
    have hne : ((N : Int) != (N : Int)) = false := by simp
    go_wp2_with fail
    refine (sortedC _ _ out IO hol8).mono ?_; rintro e y1 ⟨vIS1, rfl, RIS1, by1⟩
    replace cx := Below.keeps by1 _ _ cx
    replace cy := Below.keeps by1 _ _ cy
    replace IX := IX.keep (Below.keeps by1)
    replace IL := IL.keep (Below.keeps by1)
    replace IO := IO.keep (Below.keeps by1)
    replace B := B.trans (by1.mono B.size)
    have IS1 := RIS1.ints
    clear by1 RIS1
    go_wp2_with fail
    refine (sortedC _ vl l IL hl8).mono ?_; rintro e y2 ⟨vIS2, rfl, RIS2, by2⟩
    replace cx := Below.keeps by2 _ _ cx
    replace cy := Below.keeps by2 _ _ cy
    replace IX := IX.keep (Below.keeps by2)
    replace IL := IL.keep (Below.keeps by2)
    replace IO := IO.keep (Below.keeps by2)
    replace IS1 := IS1.keep (Below.keeps by2)
    replace B := B.trans (by2.mono B.size)
    have IS2 := RIS2.ints
    clear by2 RIS2
    go_wp2_with fail
    refine (sameC _ _ _ _ _ IS1 IS2).mono ?_; rintro e y3 ⟨rfl, by3⟩
    rw [HSO.out]
    replace cx := Below.keeps by3 _ _ cx
    replace cy := Below.keeps by3 _ _ cy
    replace IX := IX.keep (Below.keeps by3)
    replace IL := IL.keep (Below.keeps by3)
    replace IO := IO.keep (Below.keeps by3)
    replace IS1 := IS1.keep (Below.keeps by3)
    replace IS2 := IS2.keep (Below.keeps by3)
    replace B := B.trans (by3.mono B.size)
    clear by3
    clear IS1 IS2
    go_wp2_with fail
    refine (implNetworkOk (N : Int) (.slice a1 l1 c1) (rowsOf ps) _ IX).mono ?_; rintro e y4 ⟨rfl, by4⟩
    rw [HNP.out]
    replace cx := Below.keeps by4 _ _ cx
    replace cy := Below.keeps by4 _ _ cy
    replace IX := IX.keep (Below.keeps by4)
    replace IL := IL.keep (Below.keeps by4)
    replace IO := IO.keep (Below.keeps by4)
    replace B := B.trans (by4.mono B.size)
    clear by4
    have HB0 := Lib.hid B
    have HIX := Lib.hid IX
    have HIL := Lib.hid IL
    have HIO := Lib.hid IO
    have hcx := World.block_lt_of_cell? _ _ cx
    have HCX := Lib.hid cx
    have HCY := Lib.hid cy
    clear B IX IL IO cx cy
    go_wp2
    go_loopw [8] (fun t wr => ∃ k : Nat, k ≤ 13 ∧ t = .int .i64 ((k : Int) - 3) ∧ Below y4.heap.size y4 wr) (fun t _ => 16 - (intOf t + 3).toNat)
    case atStart => exact ⟨0, by omega, rfl, Below.refl _ _⟩
    case round =>
      obtain ⟨k, hk, rfl, hb⟩ := hrel
      obtain ⟨t, ht⟩ : ∃ t : Int, t = (k : Int) - 3 := ⟨_, rfl⟩
      by_cases hlt : k < 13
      · have cx := (hb.cell (p := ⟨w1.heap.size, 0, none⟩) hcx).trans HCX.out
        have cy := (hb.cell (p := ⟨w1.heap.size, 1, none⟩) hcx).trans HCY.out
        have hxs : w1.heap.size < wr.heap.size := Nat.lt_of_lt_of_le hcx hb.size
        obtain ⟨z, HZ⟩ : ∃ z, Hid (thrN out ((k : Int) - 3) = z) := ⟨_, rfl⟩
        obtain ⟨y, HY⟩ : ∃ y, Hid (thrN l ((k : Int) - 3) = y) := ⟨_, rfl⟩
        have HT := HF.out.thr ((k : Int) - 3)
        have H6 := HF.out.thr64 ((k : Int) - 3)
        rw [HO.out, HZ.out, HY.out] at HT
        rw [HY.out] at H6
        have HK : Hid (∀ x, Below y4.heap.size y4 (up wr x)) := fun x => hb.trans ((up_below wr x).mono hb.size)
        have HK1 : Hid (∀ x, Calls Try.prog 10 #[.slice a4 N c4, .int .i64 ((k : Int) - 3)] (up wr x) fun e w' => e = .returned (.int .i64 z) ∧ ∃ y, w' = up wr y) := fun x => by
          rw [← HZ.out]
          exact up_calls ((implThr _ out _ _ (HIO.out.keep (Below.keeps (HK.out x)))).mono fun e w' hh => ⟨hh.1, by rw [← hh.2]; exact Below.refl _ _⟩)
        have HK2 : Hid (∀ x, Calls Try.prog 10 #[vl, .int .i64 ((k : Int) - 3)] (up wr x) fun e w' => e = .returned (.int .i64 y) ∧ ∃ y, w' = up wr y) := fun x => by
          rw [← HY.out]
          exact up_calls ((implThr _ l _ _ (HIL.out.keep (Below.keeps (HK.out x)))).mono fun e w' hh => ⟨hh.1, by rw [← hh.2]; exact Below.refl _ _⟩)
        have HK3 : Hid (∀ x, Calls Try.prog 11 #[.agg #[.int .i64 N, .slice a1 l1 c1], .int .i64 y] (up wr x) fun e w' => e = .returned (.int .i64 z) ∧ ∃ y, w' = up wr y) := fun x => by
          rw [HT]
          exact up_calls (implApplyBits N _ (rowsOf ps) y _ HN64.out (HIX.out.keep (Below.keeps (HK.out x))) HSZ.out H6)
        have hzz : (z != z) = false := by simp
        have hd10 : decide ((k : Int) - 3 < 10) = true := decide_eq_true (by omega)
        clear HT H6
        go_wp2
        refine wp_region_up_lit (by kernel_rfl) (by kernel_rfl) ?_
        repeat (go_big_quiet_step ((first | (go_at_call 10; with_reducible exact HK1.out _) | (go_at_call 10; with_reducible exact HK2.out _) | (go_at_call 11; with_reducible exact HK3.out _))))
        refine up_end ?_
        intro wq hbq
        have bq := hb.trans (hbq.mono hb.size)
        clear hbq
        go_wp2
        go_roundw
        case rel => exact ⟨k + 1, by omega, by go_num, bq⟩
        case measure => simp [intOf]; omega
      · have hd10 : decide ((k : Int) - 3 < 10) = false := decide_eq_false (by omega)
        have B := HB0.out.trans (hb.mono HB0.out.size)
        have IX := HIX.out.keep (Below.keeps hb)
        have IL := HIL.out.keep (Below.keeps hb)
        have IO := HIO.out.keep (Below.keeps hb)
        have cx := (hb.cell (p := ⟨w1.heap.size, 0, none⟩) hcx).trans HCX.out
        have cy := (hb.cell (p := ⟨w1.heap.size, 1, none⟩) hcx).trans HCY.out
        have hbx := hb
        clear hb hbx HB0 HIX HIL HIO HCX HCY
        obtain ⟨M, HM⟩ : ∃ M : Nat, Hid (2 ^ N = M) := ⟨_, rfl⟩
        have hM : (2 : Int) ^ N = (M : Int) := by rw [pow_cast, HM.out]
        have hwp := wrap_pow N (by omega)
        have hqp := pow_le8 N (by omega)
        have hpp := pow_pos N
        have hM2 : 2 ≤ M := by
          have : ∀ k : Fin 7, 1 ≤ k.val → 2 ≤ 2 ^ k.val := by decide
          rw [← HM.out]; exact this ⟨N, by omega⟩ h1
        rw [hM] at hwp hqp hpp
        have hsh : wrap64 (2 ^ N) = (M : Int) := by rw [hM]; exact hwp
        clear hM hwp hM2
        by_cases hs : SortP N (rowsOf ps)
        · obtain ⟨f1, f2, f3, f4, f5, f6, f7⟩ := top_sort (l := l) h6 HP.out hll hs
          rw [HO.out] at f5
          have HIS := Lib.hid (tf_yes hs)
          have HFU := Lib.hid f1
          have HCU := Lib.hid f2
          have HRN := Lib.hid f3
          have HFL := Lib.hid (tf_no f4)
          have HRI := Lib.hid (tf_yes f5)
          have HSO9 := Lib.hid f6
          have HAB := Lib.hid f7
          obtain ⟨hcM, hM2i, hwm⟩ := top_zero h1 h6 HM.out
          have hcM9 := gt_lt hcM
          clear hs f1 f2 f3 f4 f5 f6 f7
          by_cases hst : StdP N (rowsOf ps)
          · have HST := Lib.hid (tf_yes hst)
            clear hst
            as_aux_lemma =>
              go_wp2_with fail
              refine (implIsSorting (N : Int) (.slice a1 l1 c1) (rowsOf ps) _ HN64.out IX HSZ.out).mono ?_; rintro e y5 ⟨rfl, by5⟩
              rw [HIS.out]
              replace cx := Below.keeps by5 _ _ cx
              replace cy := Below.keeps by5 _ _ cy
              replace IX := IX.keep (Below.keeps by5)
              replace IL := IL.keep (Below.keeps by5)
              replace IO := IO.keep (Below.keeps by5)
              replace B := B.trans (by5.mono B.size)
              clear by5
              go_wp2_with fail
              refine (implFirstUnsorted (N : Int) (.slice a1 l1 c1) (rowsOf ps) _ HN64.out IX HSZ.out).mono ?_; rintro e y6 ⟨rfl, by6⟩
              rw [HFU.out]
              replace cx := Below.keeps by6 _ _ cx
              replace cy := Below.keeps by6 _ _ cy
              replace IX := IX.keep (Below.keeps by6)
              replace IL := IL.keep (Below.keeps by6)
              replace IO := IO.keep (Below.keeps by6)
              replace B := B.trans (by6.mono B.size)
              clear by6
              go_wp2_with fail
              refine (implCountUnsorted (N : Int) (.slice a1 l1 c1) (rowsOf ps) _ HN64.out IX HSZ.out).mono ?_; rintro e y7 ⟨rfl, by7⟩
              rw [HCU.out]
              replace cx := Below.keeps by7 _ _ cx
              replace cy := Below.keeps by7 _ _ cy
              replace IX := IX.keep (Below.keeps by7)
              replace IL := IL.keep (Below.keeps by7)
              replace IO := IO.keep (Below.keeps by7)
              replace B := B.trans (by7.mono B.size)
              clear by7
              go_wp2_with fail
              refine (implResultsOf (N : Int) (.slice a1 l1 c1) (rowsOf ps) _ HN64.out IX HSZ.out).mono ?_; rintro e y8 ⟨vr, rfl, RR, by8⟩
              obtain ⟨ar, cr, hvr, -⟩ := RR.ints
              subst hvr
              replace cx := Below.keeps by8 _ _ cx
              replace cy := Below.keeps by8 _ _ cy
              replace IX := IX.keep (Below.keeps by8)
              replace IL := IL.keep (Below.keeps by8)
              replace IO := IO.keep (Below.keeps by8)
              replace B := B.trans (by8.mono B.size)
              clear by8 RR
              rw [HRN.out]
              obtain ⟨hlr, hlr2⟩ := len_eq N
              go_wp2_with fail
              refine (implFailingList (N : Int) (.slice a1 l1 c1) (rowsOf ps) _ HN64.out IX HSZ.out).mono ?_; rintro e y9 ⟨vb, rfl, RB, by9⟩
              rw [HFL.out]
              replace cx := Below.keeps by9 _ _ cx
              replace cy := Below.keeps by9 _ _ cy
              replace IX := IX.keep (Below.keeps by9)
              replace IL := IL.keep (Below.keeps by9)
              replace IO := IO.keep (Below.keeps by9)
              replace B := B.trans (by9.mono B.size)
              have IB := RB.ints
              clear by9 RB
              go_wp2_with fail
              refine (implIsStandard (N : Int) (.slice a1 l1 c1) (rowsOf ps) _ HN64.out IX HSZ.out).mono ?_; rintro e y10 ⟨rfl, by10⟩
              rw [HST.out]
              replace cx := Below.keeps by10 _ _ cx
              replace cy := Below.keeps by10 _ _ cy
              replace IX := IX.keep (Below.keeps by10)
              replace IL := IL.keep (Below.keeps by10)
              replace IO := IO.keep (Below.keeps by10)
              replace B := B.trans (by10.mono B.size)
              clear by10
              go_wp2_with fail
              refine (implIsStandard (N : Int) (.slice a1 l1 c1) (rowsOf ps) _ HN64.out IX HSZ.out).mono ?_; rintro e y11 ⟨rfl, by11⟩
              rw [HST.out]
              replace cx := Below.keeps by11 _ _ cx
              replace cy := Below.keeps by11 _ _ cy
              replace IX := IX.keep (Below.keeps by11)
              replace IL := IL.keep (Below.keeps by11)
              replace IO := IO.keep (Below.keeps by11)
              replace B := B.trans (by11.mono B.size)
              clear by11
              obtain ⟨cm, HCM⟩ : ∃ cm, Hid (cumN N = cm) := ⟨_, rfl⟩
              have hcm0 : (0 : Int) ≤ cm := by rw [← HCM.out]; exact cum_nonneg h1 h6
              have hcm := not_gt hcm0
              have hcm9 := gt_lt hcm
              go_wp2_with fail
              refine (implCum N _).mono ?_; rintro e _ ⟨rfl, rfl⟩
              rw [HCM.out]
              go_wp2_with fail
              refine (risesC _ out _ IO).mono ?_; rintro e y12 ⟨rfl, by12⟩
              rw [HRI.out]
              replace cx := Below.keeps by12 _ _ cx
              replace cy := Below.keeps by12 _ _ cy
              replace IX := IX.keep (Below.keeps by12)
              replace IL := IL.keep (Below.keeps by12)
              replace IO := IO.keep (Below.keeps by12)
              replace B := B.trans (by12.mono B.size)
              clear by12
              have HBB := Lib.hid B
              have HIX := Lib.hid IX
              have hcx9 := World.block_lt_of_cell? _ _ cx
              clear B IX IL IO
              go_wp2
              go_region_held3 (fun w' => (w'.cell? ⟨w1.heap.size, 0, none⟩ = some (.int .i64 N) ∧ w'.cell? ⟨w1.heap.size, 1, none⟩ = some (.slice a1 l1 c1)) ∧ Below y12.heap.size y12 w')
                (first | exact ⟨⟨cx, cy⟩, (Below.refl _ _).drew⟩ | exact held2_b (by assumption) (by assumption))
                (first | (go_at_call 23; refine (HMO.out N _ (by omega) (HBB.out.trans (Below.mono (And.right (by assumption)) HBB.out.size))).mono ?_; rintro e wq ⟨vq, q, rfl, hq9, OQ, bq⟩) | (go_at_call 21; refine (implSortsOrder (N : Int) (.slice a1 l1 c1) (rowsOf ps) vq q _ HN64.out (HIX.out.keep (Below.keeps (And.right (by assumption)))) HSZ.out OQ.ints (by rw [hq9.1]; omega)).mono ?_; rintro e wt ⟨rfl, bt⟩; rw [tf_yes (HSO9.out q hq9.1)]) | (go_at_call 11; refine (implApplyBits (N : Int) (.slice a1 l1 c1) (rowsOf ps) 0 _ HN64.out (HIX.out.keep (Below.keeps (And.right (by assumption)))) HSZ.out zero64).mono ?_; rintro e wu ⟨rfl, bu⟩; rw [HAB.out]))
              all_goals
                have BE : Below w.heap.size w wu := HBB.out.trans (Below.mono (And.right (by assumption)) HBB.out.size)
                go_wp2
                go_ret
                exact ⟨rfl, BE⟩
          · have HST := Lib.hid (tf_no hst)
            clear hst
            as_aux_lemma =>
              go_wp2_with fail
              refine (implIsSorting (N : Int) (.slice a1 l1 c1) (rowsOf ps) _ HN64.out IX HSZ.out).mono ?_; rintro e y13 ⟨rfl, by13⟩
              rw [HIS.out]
              replace cx := Below.keeps by13 _ _ cx
              replace cy := Below.keeps by13 _ _ cy
              replace IX := IX.keep (Below.keeps by13)
              replace IL := IL.keep (Below.keeps by13)
              replace IO := IO.keep (Below.keeps by13)
              replace B := B.trans (by13.mono B.size)
              clear by13
              go_wp2_with fail
              refine (implFirstUnsorted (N : Int) (.slice a1 l1 c1) (rowsOf ps) _ HN64.out IX HSZ.out).mono ?_; rintro e y14 ⟨rfl, by14⟩
              rw [HFU.out]
              replace cx := Below.keeps by14 _ _ cx
              replace cy := Below.keeps by14 _ _ cy
              replace IX := IX.keep (Below.keeps by14)
              replace IL := IL.keep (Below.keeps by14)
              replace IO := IO.keep (Below.keeps by14)
              replace B := B.trans (by14.mono B.size)
              clear by14
              go_wp2_with fail
              refine (implCountUnsorted (N : Int) (.slice a1 l1 c1) (rowsOf ps) _ HN64.out IX HSZ.out).mono ?_; rintro e y15 ⟨rfl, by15⟩
              rw [HCU.out]
              replace cx := Below.keeps by15 _ _ cx
              replace cy := Below.keeps by15 _ _ cy
              replace IX := IX.keep (Below.keeps by15)
              replace IL := IL.keep (Below.keeps by15)
              replace IO := IO.keep (Below.keeps by15)
              replace B := B.trans (by15.mono B.size)
              clear by15
              go_wp2_with fail
              refine (implResultsOf (N : Int) (.slice a1 l1 c1) (rowsOf ps) _ HN64.out IX HSZ.out).mono ?_; rintro e y16 ⟨vr, rfl, RR, by16⟩
              obtain ⟨ar, cr, hvr, -⟩ := RR.ints
              subst hvr
              replace cx := Below.keeps by16 _ _ cx
              replace cy := Below.keeps by16 _ _ cy
              replace IX := IX.keep (Below.keeps by16)
              replace IL := IL.keep (Below.keeps by16)
              replace IO := IO.keep (Below.keeps by16)
              replace B := B.trans (by16.mono B.size)
              clear by16 RR
              rw [HRN.out]
              obtain ⟨hlr, hlr2⟩ := len_eq N
              go_wp2_with fail
              refine (implFailingList (N : Int) (.slice a1 l1 c1) (rowsOf ps) _ HN64.out IX HSZ.out).mono ?_; rintro e y17 ⟨vb, rfl, RB, by17⟩
              rw [HFL.out]
              replace cx := Below.keeps by17 _ _ cx
              replace cy := Below.keeps by17 _ _ cy
              replace IX := IX.keep (Below.keeps by17)
              replace IL := IL.keep (Below.keeps by17)
              replace IO := IO.keep (Below.keeps by17)
              replace B := B.trans (by17.mono B.size)
              have IB := RB.ints
              clear by17 RB
              go_wp2_with fail
              refine (implIsStandard (N : Int) (.slice a1 l1 c1) (rowsOf ps) _ HN64.out IX HSZ.out).mono ?_; rintro e y18 ⟨rfl, by18⟩
              rw [HST.out]
              replace cx := Below.keeps by18 _ _ cx
              replace cy := Below.keeps by18 _ _ cy
              replace IX := IX.keep (Below.keeps by18)
              replace IL := IL.keep (Below.keeps by18)
              replace IO := IO.keep (Below.keeps by18)
              replace B := B.trans (by18.mono B.size)
              clear by18
              go_wp2_with fail
              refine (implIsStandard (N : Int) (.slice a1 l1 c1) (rowsOf ps) _ HN64.out IX HSZ.out).mono ?_; rintro e y19 ⟨rfl, by19⟩
              rw [HST.out]
              replace cx := Below.keeps by19 _ _ cx
              replace cy := Below.keeps by19 _ _ cy
              replace IX := IX.keep (Below.keeps by19)
              replace IL := IL.keep (Below.keeps by19)
              replace IO := IO.keep (Below.keeps by19)
              replace B := B.trans (by19.mono B.size)
              clear by19
              go_wp2_with fail
              refine (risesC _ out _ IO).mono ?_; rintro e y20 ⟨rfl, by20⟩
              rw [HRI.out]
              replace cx := Below.keeps by20 _ _ cx
              replace cy := Below.keeps by20 _ _ cy
              replace IX := IX.keep (Below.keeps by20)
              replace IL := IL.keep (Below.keeps by20)
              replace IO := IO.keep (Below.keeps by20)
              replace B := B.trans (by20.mono B.size)
              clear by20
              have HBB := Lib.hid B
              have HIX := Lib.hid IX
              have hcx9 := World.block_lt_of_cell? _ _ cx
              clear B IX IL IO
              go_wp2
              go_region_held3 (fun w' => (w'.cell? ⟨w1.heap.size, 0, none⟩ = some (.int .i64 N) ∧ w'.cell? ⟨w1.heap.size, 1, none⟩ = some (.slice a1 l1 c1)) ∧ Below y20.heap.size y20 w')
                (first | exact ⟨⟨cx, cy⟩, (Below.refl _ _).drew⟩ | exact held2_b (by assumption) (by assumption))
                (first | (go_at_call 23; refine (HMO.out N _ (by omega) (HBB.out.trans (Below.mono (And.right (by assumption)) HBB.out.size))).mono ?_; rintro e wq ⟨vq, q, rfl, hq9, OQ, bq⟩) | (go_at_call 21; refine (implSortsOrder (N : Int) (.slice a1 l1 c1) (rowsOf ps) vq q _ HN64.out (HIX.out.keep (Below.keeps (And.right (by assumption)))) HSZ.out OQ.ints (by rw [hq9.1]; omega)).mono ?_; rintro e wt ⟨rfl, bt⟩; rw [tf_yes (HSO9.out q hq9.1)]) | (go_at_call 11; refine (implApplyBits (N : Int) (.slice a1 l1 c1) (rowsOf ps) 0 _ HN64.out (HIX.out.keep (Below.keeps (And.right (by assumption)))) HSZ.out zero64).mono ?_; rintro e wu ⟨rfl, bu⟩; rw [HAB.out]))
              all_goals
                have BE : Below w.heap.size w wu := HBB.out.trans (Below.mono (And.right (by assumption)) HBB.out.size)
                go_wp2
                go_ret
                exact ⟨rfl, BE⟩
        · obtain ⟨m, c, f1, f2, f3, f4, f5, f6, f7, f8, f9, f10, f11, f12⟩ := top_fail h6 HP.out hs
          have HIS := Lib.hid (tf_no hs)
          have HFU := Lib.hid f1
          have HCU := Lib.hid f3
          have HFL := Lib.hid (tf_yes f6)
          have HLI := Lib.hid f7
          have HSR := Lib.hid (tf_yes (p := srtL (failTo N m N) = upto N) f8)
          have HSO9 := Lib.hid (tf_no f9)
          have HSM := Lib.hid (tf_no f10)
          have HA64 := Lib.hid f11
          obtain ⟨hm64, hm1, hc0, hcn, hcM⟩ := top_nums h1 h6 HM.out f2 f4 f5
          have HM64 := Lib.hid hm64
          obtain ⟨_, hM2i, hwm⟩ := top_zero h1 h6 HM.out
          have hcM9 := gt_lt hcM
          have HSTD := Lib.hid f12
          clear hs f1 f2 f3 f4 f5 f6 f7 f8 f9 f10 f11 f12 hm64
          by_cases hst : StdP N (rowsOf ps)
          · have HST := Lib.hid (tf_yes hst)
            obtain ⟨g1, g2⟩ := HSTD.out hst
            clear hst HSTD
            as_aux_lemma =>
              go_wp2_with fail
              refine (implIsSorting (N : Int) (.slice a1 l1 c1) (rowsOf ps) _ HN64.out IX HSZ.out).mono ?_; rintro e y21 ⟨rfl, by21⟩
              rw [HIS.out]
              replace cx := Below.keeps by21 _ _ cx
              replace cy := Below.keeps by21 _ _ cy
              replace IX := IX.keep (Below.keeps by21)
              replace IL := IL.keep (Below.keeps by21)
              replace IO := IO.keep (Below.keeps by21)
              replace B := B.trans (by21.mono B.size)
              clear by21
              go_wp2_with fail
              refine (implFirstUnsorted (N : Int) (.slice a1 l1 c1) (rowsOf ps) _ HN64.out IX HSZ.out).mono ?_; rintro e y22 ⟨rfl, by22⟩
              rw [HFU.out]
              replace cx := Below.keeps by22 _ _ cx
              replace cy := Below.keeps by22 _ _ cy
              replace IX := IX.keep (Below.keeps by22)
              replace IL := IL.keep (Below.keeps by22)
              replace IO := IO.keep (Below.keeps by22)
              replace B := B.trans (by22.mono B.size)
              clear by22
              go_wp2_with fail
              refine (implCountUnsorted (N : Int) (.slice a1 l1 c1) (rowsOf ps) _ HN64.out IX HSZ.out).mono ?_; rintro e y23 ⟨rfl, by23⟩
              rw [HCU.out]
              replace cx := Below.keeps by23 _ _ cx
              replace cy := Below.keeps by23 _ _ cy
              replace IX := IX.keep (Below.keeps by23)
              replace IL := IL.keep (Below.keeps by23)
              replace IO := IO.keep (Below.keeps by23)
              replace B := B.trans (by23.mono B.size)
              clear by23
              go_wp2_with fail
              refine (implResultsOf (N : Int) (.slice a1 l1 c1) (rowsOf ps) _ HN64.out IX HSZ.out).mono ?_; rintro e y24 ⟨vr, rfl, RR, by24⟩
              obtain ⟨ar, cr, hvr, -⟩ := RR.ints
              subst hvr
              replace cx := Below.keeps by24 _ _ cx
              replace cy := Below.keeps by24 _ _ cy
              replace IX := IX.keep (Below.keeps by24)
              replace IL := IL.keep (Below.keeps by24)
              replace IO := IO.keep (Below.keeps by24)
              replace B := B.trans (by24.mono B.size)
              clear by24 RR
              generalize (resN N (rowsOf ps)).length = lr at *
              have hlr := len_ne g1
              go_wp2_with fail
              refine (implFailingList (N : Int) (.slice a1 l1 c1) (rowsOf ps) _ HN64.out IX HSZ.out).mono ?_; rintro e y25 ⟨vb, rfl, RB, by25⟩
              rw [HFL.out]
              replace cx := Below.keeps by25 _ _ cx
              replace cy := Below.keeps by25 _ _ cy
              replace IX := IX.keep (Below.keeps by25)
              replace IL := IL.keep (Below.keeps by25)
              replace IO := IO.keep (Below.keeps by25)
              replace B := B.trans (by25.mono B.size)
              have IB := RB.ints
              clear by25 RB
              rw [HLI.out] at IB
              have hbl := failTo_length N m N
              obtain ⟨fb, HFB⟩ : ∃ fb, Hid (failTo N m N = fb) := ⟨_, rfl⟩
              rw [HFB.out] at IB hbl HSR HSO9
              obtain ⟨ab, cb, hvb, -⟩ := id IB
              subst hvb
              rw [hbl] at IB ⊢
              have hbl8 : fb.length ≤ 1048576 := by omega
              go_wp2_with fail
              refine (implIsStandard (N : Int) (.slice a1 l1 c1) (rowsOf ps) _ HN64.out IX HSZ.out).mono ?_; rintro e y26 ⟨rfl, by26⟩
              rw [HST.out]
              replace cx := Below.keeps by26 _ _ cx
              replace cy := Below.keeps by26 _ _ cy
              replace IX := IX.keep (Below.keeps by26)
              replace IL := IL.keep (Below.keeps by26)
              replace IO := IO.keep (Below.keeps by26)
              replace IB := IB.keep (Below.keeps by26)
              replace B := B.trans (by26.mono B.size)
              clear by26
              go_wp2_with fail
              refine (implIsStandard (N : Int) (.slice a1 l1 c1) (rowsOf ps) _ HN64.out IX HSZ.out).mono ?_; rintro e y27 ⟨rfl, by27⟩
              rw [HST.out]
              replace cx := Below.keeps by27 _ _ cx
              replace cy := Below.keeps by27 _ _ cy
              replace IX := IX.keep (Below.keeps by27)
              replace IL := IL.keep (Below.keeps by27)
              replace IO := IO.keep (Below.keeps by27)
              replace IB := IB.keep (Below.keeps by27)
              replace B := B.trans (by27.mono B.size)
              clear by27
              obtain ⟨cm, HCM⟩ : ∃ cm, Hid (cumN N = cm) := ⟨_, rfl⟩
              have hcm : decide ((c : Int) > cm) = false := by rw [← HCM.out]; exact not_gt g2
              have hcm9 := gt_lt hcm
              go_wp2_with fail
              refine (implCum N _).mono ?_; rintro e _ ⟨rfl, rfl⟩
              rw [HCM.out]
              have hne2 : ((N : Int) == (N : Int)) = true := by simp
              go_wp2_with fail
              refine (sortedC _ _ fb IB hbl8).mono ?_; rintro e y28 ⟨vIS3, rfl, RIS3, by28⟩
              replace cx := Below.keeps by28 _ _ cx
              replace cy := Below.keeps by28 _ _ cy
              replace IX := IX.keep (Below.keeps by28)
              replace IL := IL.keep (Below.keeps by28)
              replace IO := IO.keep (Below.keeps by28)
              replace IB := IB.keep (Below.keeps by28)
              replace B := B.trans (by28.mono B.size)
              have IS3 := RIS3.ints
              clear by28 RIS3
              go_wp2_with fail
              refine (stairsC N _ (by omega)).mono ?_; rintro e y29 ⟨vIS4, rfl, RIS4, by29⟩
              replace cx := Below.keeps by29 _ _ cx
              replace cy := Below.keeps by29 _ _ cy
              replace IX := IX.keep (Below.keeps by29)
              replace IL := IL.keep (Below.keeps by29)
              replace IO := IO.keep (Below.keeps by29)
              replace IB := IB.keep (Below.keeps by29)
              replace IS3 := IS3.keep (Below.keeps by29)
              replace B := B.trans (by29.mono B.size)
              have IS4 := RIS4.ints
              clear by29 RIS4
              go_wp2_with fail
              refine (sameC _ _ _ _ _ IS3 IS4).mono ?_; rintro e y30 ⟨rfl, by30⟩
              rw [HSR.out]
              replace cx := Below.keeps by30 _ _ cx
              replace cy := Below.keeps by30 _ _ cy
              replace IX := IX.keep (Below.keeps by30)
              replace IL := IL.keep (Below.keeps by30)
              replace IO := IO.keep (Below.keeps by30)
              replace IB := IB.keep (Below.keeps by30)
              replace IS3 := IS3.keep (Below.keeps by30)
              replace IS4 := IS4.keep (Below.keeps by30)
              replace B := B.trans (by30.mono B.size)
              clear by30
              go_wp2_with fail
              refine (implSortsOrder (N : Int) (.slice a1 l1 c1) (rowsOf ps) _ fb _ HN64.out IX HSZ.out IB hbl8).mono ?_; rintro e y31 ⟨rfl, by31⟩
              rw [HSO9.out]
              replace cx := Below.keeps by31 _ _ cx
              replace cy := Below.keeps by31 _ _ cy
              replace IX := IX.keep (Below.keeps by31)
              replace IL := IL.keep (Below.keeps by31)
              replace IO := IO.keep (Below.keeps by31)
              replace IB := IB.keep (Below.keeps by31)
              replace IS3 := IS3.keep (Below.keeps by31)
              replace IS4 := IS4.keep (Below.keeps by31)
              replace B := B.trans (by31.mono B.size)
              clear by31
              go_wp2_with fail
              refine (implApplyBits (N : Int) (.slice a1 l1 c1) (rowsOf ps) m _ HN64.out IX HSZ.out HM64.out).mono ?_; rintro e y32 ⟨rfl, by32⟩
              replace cx := Below.keeps by32 _ _ cx
              replace cy := Below.keeps by32 _ _ cy
              replace IX := IX.keep (Below.keeps by32)
              replace IL := IL.keep (Below.keeps by32)
              replace IO := IO.keep (Below.keeps by32)
              replace IB := IB.keep (Below.keeps by32)
              replace IS3 := IS3.keep (Below.keeps by32)
              replace IS4 := IS4.keep (Below.keeps by32)
              replace B := B.trans (by32.mono B.size)
              clear by32
              go_wp2_with fail
              refine (implIsSm N _ _).mono ?_; rintro e _ ⟨rfl, rfl⟩
              rw [HSM.out]
              go_wp2
              go_ret
              exact ⟨rfl, B⟩
          · have HST := Lib.hid (tf_no hst)
            clear hst HSTD
            as_aux_lemma =>
              go_wp2_with fail
              refine (implIsSorting (N : Int) (.slice a1 l1 c1) (rowsOf ps) _ HN64.out IX HSZ.out).mono ?_; rintro e y33 ⟨rfl, by33⟩
              rw [HIS.out]
              replace cx := Below.keeps by33 _ _ cx
              replace cy := Below.keeps by33 _ _ cy
              replace IX := IX.keep (Below.keeps by33)
              replace IL := IL.keep (Below.keeps by33)
              replace IO := IO.keep (Below.keeps by33)
              replace B := B.trans (by33.mono B.size)
              clear by33
              go_wp2_with fail
              refine (implFirstUnsorted (N : Int) (.slice a1 l1 c1) (rowsOf ps) _ HN64.out IX HSZ.out).mono ?_; rintro e y34 ⟨rfl, by34⟩
              rw [HFU.out]
              replace cx := Below.keeps by34 _ _ cx
              replace cy := Below.keeps by34 _ _ cy
              replace IX := IX.keep (Below.keeps by34)
              replace IL := IL.keep (Below.keeps by34)
              replace IO := IO.keep (Below.keeps by34)
              replace B := B.trans (by34.mono B.size)
              clear by34
              go_wp2_with fail
              refine (implCountUnsorted (N : Int) (.slice a1 l1 c1) (rowsOf ps) _ HN64.out IX HSZ.out).mono ?_; rintro e y35 ⟨rfl, by35⟩
              rw [HCU.out]
              replace cx := Below.keeps by35 _ _ cx
              replace cy := Below.keeps by35 _ _ cy
              replace IX := IX.keep (Below.keeps by35)
              replace IL := IL.keep (Below.keeps by35)
              replace IO := IO.keep (Below.keeps by35)
              replace B := B.trans (by35.mono B.size)
              clear by35
              go_wp2_with fail
              refine (implResultsOf (N : Int) (.slice a1 l1 c1) (rowsOf ps) _ HN64.out IX HSZ.out).mono ?_; rintro e y36 ⟨vr, rfl, RR, by36⟩
              obtain ⟨ar, cr, hvr, -⟩ := RR.ints
              subst hvr
              replace cx := Below.keeps by36 _ _ cx
              replace cy := Below.keeps by36 _ _ cy
              replace IX := IX.keep (Below.keeps by36)
              replace IL := IL.keep (Below.keeps by36)
              replace IO := IO.keep (Below.keeps by36)
              replace B := B.trans (by36.mono B.size)
              clear by36 RR
              generalize (resN N (rowsOf ps)).length = lr at *
              go_wp2_with fail
              refine (implFailingList (N : Int) (.slice a1 l1 c1) (rowsOf ps) _ HN64.out IX HSZ.out).mono ?_; rintro e y37 ⟨vb, rfl, RB, by37⟩
              rw [HFL.out]
              replace cx := Below.keeps by37 _ _ cx
              replace cy := Below.keeps by37 _ _ cy
              replace IX := IX.keep (Below.keeps by37)
              replace IL := IL.keep (Below.keeps by37)
              replace IO := IO.keep (Below.keeps by37)
              replace B := B.trans (by37.mono B.size)
              have IB := RB.ints
              clear by37 RB
              rw [HLI.out] at IB
              have hbl := failTo_length N m N
              obtain ⟨fb, HFB⟩ : ∃ fb, Hid (failTo N m N = fb) := ⟨_, rfl⟩
              rw [HFB.out] at IB hbl HSR HSO9
              obtain ⟨ab, cb, hvb, -⟩ := id IB
              subst hvb
              rw [hbl] at IB ⊢
              have hbl8 : fb.length ≤ 1048576 := by omega
              go_wp2_with fail
              refine (implIsStandard (N : Int) (.slice a1 l1 c1) (rowsOf ps) _ HN64.out IX HSZ.out).mono ?_; rintro e y38 ⟨rfl, by38⟩
              rw [HST.out]
              replace cx := Below.keeps by38 _ _ cx
              replace cy := Below.keeps by38 _ _ cy
              replace IX := IX.keep (Below.keeps by38)
              replace IL := IL.keep (Below.keeps by38)
              replace IO := IO.keep (Below.keeps by38)
              replace IB := IB.keep (Below.keeps by38)
              replace B := B.trans (by38.mono B.size)
              clear by38
              go_wp2_with fail
              refine (implIsStandard (N : Int) (.slice a1 l1 c1) (rowsOf ps) _ HN64.out IX HSZ.out).mono ?_; rintro e y39 ⟨rfl, by39⟩
              rw [HST.out]
              replace cx := Below.keeps by39 _ _ cx
              replace cy := Below.keeps by39 _ _ cy
              replace IX := IX.keep (Below.keeps by39)
              replace IL := IL.keep (Below.keeps by39)
              replace IO := IO.keep (Below.keeps by39)
              replace IB := IB.keep (Below.keeps by39)
              replace B := B.trans (by39.mono B.size)
              clear by39
              have hne2 : ((N : Int) == (N : Int)) = true := by simp
              go_wp2_with fail
              refine (sortedC _ _ fb IB hbl8).mono ?_; rintro e y40 ⟨vIS3, rfl, RIS3, by40⟩
              replace cx := Below.keeps by40 _ _ cx
              replace cy := Below.keeps by40 _ _ cy
              replace IX := IX.keep (Below.keeps by40)
              replace IL := IL.keep (Below.keeps by40)
              replace IO := IO.keep (Below.keeps by40)
              replace IB := IB.keep (Below.keeps by40)
              replace B := B.trans (by40.mono B.size)
              have IS3 := RIS3.ints
              clear by40 RIS3
              go_wp2_with fail
              refine (stairsC N _ (by omega)).mono ?_; rintro e y41 ⟨vIS4, rfl, RIS4, by41⟩
              replace cx := Below.keeps by41 _ _ cx
              replace cy := Below.keeps by41 _ _ cy
              replace IX := IX.keep (Below.keeps by41)
              replace IL := IL.keep (Below.keeps by41)
              replace IO := IO.keep (Below.keeps by41)
              replace IB := IB.keep (Below.keeps by41)
              replace IS3 := IS3.keep (Below.keeps by41)
              replace B := B.trans (by41.mono B.size)
              have IS4 := RIS4.ints
              clear by41 RIS4
              go_wp2_with fail
              refine (sameC _ _ _ _ _ IS3 IS4).mono ?_; rintro e y42 ⟨rfl, by42⟩
              rw [HSR.out]
              replace cx := Below.keeps by42 _ _ cx
              replace cy := Below.keeps by42 _ _ cy
              replace IX := IX.keep (Below.keeps by42)
              replace IL := IL.keep (Below.keeps by42)
              replace IO := IO.keep (Below.keeps by42)
              replace IB := IB.keep (Below.keeps by42)
              replace IS3 := IS3.keep (Below.keeps by42)
              replace IS4 := IS4.keep (Below.keeps by42)
              replace B := B.trans (by42.mono B.size)
              clear by42
              go_wp2_with fail
              refine (implSortsOrder (N : Int) (.slice a1 l1 c1) (rowsOf ps) _ fb _ HN64.out IX HSZ.out IB hbl8).mono ?_; rintro e y43 ⟨rfl, by43⟩
              rw [HSO9.out]
              replace cx := Below.keeps by43 _ _ cx
              replace cy := Below.keeps by43 _ _ cy
              replace IX := IX.keep (Below.keeps by43)
              replace IL := IL.keep (Below.keeps by43)
              replace IO := IO.keep (Below.keeps by43)
              replace IB := IB.keep (Below.keeps by43)
              replace IS3 := IS3.keep (Below.keeps by43)
              replace IS4 := IS4.keep (Below.keeps by43)
              replace B := B.trans (by43.mono B.size)
              clear by43
              go_wp2_with fail
              refine (implApplyBits (N : Int) (.slice a1 l1 c1) (rowsOf ps) m _ HN64.out IX HSZ.out HM64.out).mono ?_; rintro e y44 ⟨rfl, by44⟩
              replace cx := Below.keeps by44 _ _ cx
              replace cy := Below.keeps by44 _ _ cy
              replace IX := IX.keep (Below.keeps by44)
              replace IL := IL.keep (Below.keeps by44)
              replace IO := IO.keep (Below.keeps by44)
              replace IB := IB.keep (Below.keeps by44)
              replace IS3 := IS3.keep (Below.keeps by44)
              replace IS4 := IS4.keep (Below.keeps by44)
              replace B := B.trans (by44.mono B.size)
              clear by44
              go_wp2_with fail
              refine (implIsSm N _ _).mono ?_; rintro e _ ⟨rfl, rfl⟩
              rw [HSM.out]
              go_wp2
              go_ret
              exact ⟨rfl, B⟩
  · subst hv
    go_enter Try.func3, Try.ntmps3
    go_wp2
    go_ret
    exact ⟨rfl, Below.refl _ _⟩


set_option maxRecDepth 100000 in
theorem lifted (os : Os) (started : os.Started) (H : Type) (enc : TypeId × Value → H) :
    ReturnsInHanded {} Try.checked os 3 .any (Rows.fnTopSpec.pre6 enc Try.prog Try.f3 Rows.fnTopRow.domain false) (Rows.fnTopSpec.post enc Try.prog Try.f3 false true false false) := by
  refine returnsInHanded_of_change (C := Try.checked) own started (by kernel_rfl) Try.func3
    (ChangeSpec.witness6 (enc := enc) (C := Try.checked) false ⟨#[], #[.slice none 0 0], []⟩ 8 (by kernel_rfl) (by kernel_rfl) (by kernel_rfl) (by kernel_rfl)) ?_
  intro W base args ds gs before hval0 hW hcnd _
  have hval : ∀ (j : Nat) t v, Try.f3.params[j]? = some t → args[j]? = some v → Value.okWide Try.prog W .any base t v := hval0
  have hW' := hW
  obtain ⟨p, q, hA0, hV, rfl, hfz, hnd⟩ := hW
  have hA : DataW.TrodAll enc Try.prog W 0 (fun _ => true) true Try.f3.params.toList args.toList ds p := hA0
  rw [Try.params3] at hA hval
  obtain ⟨v0, vs0, d0, ds0, p0, q0, hargs, rfl, rfl, h0, r0⟩ := trodAll_cons hA
  obtain ⟨rfl, rfl, rfl⟩ := trodAll_nil r0
  obtain rfl : args = #[v0] := by cases args; simp_all
  obtain ⟨rfl, rfl⟩ := trodVars_none hV
  have k0 := h0
  have lt0 : ∀ x ∈ p0, x.block < W.heap.size := by obtain ⟨m, hm⟩ := k0; exact DataW.trod_lt m _ _ _ hm
  obtain ⟨x0, w0⟩ := Bytes.of_trod Try.underlying22 Try.underlying5 cellsByte (hval 0 22 v0 rfl rfl) h0
  clear hA0 hval0
  refine (law v0 x0 W w0).mono fun e W' ⟨he, bel⟩ => ?_
  subst he
  exact ⟨_, rfl, _, _, _, [], _, [], hW', trodAll_mk1 (shut_bool Try.underlying4 _), (trodAll_cons_mk (Below.trod laidOut (by kernel_rfl) (of_decide_eq_true (by kernel_rfl)) k0 bel lt0) trodAll_mk0), rfl, bel.frame _, fun h => by cases h⟩

theorem band {a b : Bool} (h1 : a = true) (h2 : b = true) : (a && b) = true := by subst h1; subst h2; rfl
set_option maxHeartbeats 4000000 in
/-- The closed facts of the program, each checked by itself. -/
theorem joined : joinedFacts Try.prog 3 Try.f3 Rows.fnTopSpec Rows.fnTopRow = true := by
  unfold joinedFacts
  repeat' (with_reducible apply band)
  all_goals (as_aux_lemma => kernel_rfl)

theorem over : Rows.fnTopRow.holds Try.pinned (OpenSpec.ofChange Rows.fnTopSpec) :=
  OpenClaim.holds_of_wide 3 Try.f3 rfl rfl rfl rfl rfl rfl rfl ⟨rfl, rfl, rfl, rfl, rfl⟩ rfl rfl rfl rfl rfl (by as_aux_lemma => kernel_rfl) Try.func3 joined
    (of_decide_eq_true (by as_aux_lemma => kernel_rfl)) (by unfold Func.isWrapper; first | (rw [if_pos (by decide +kernel)]; kernel_rfl) | (rw [if_neg (by decide +kernel)]; exact ⟨rfl, rfl⟩))
    (fun os started H enc _ => lifted os started H enc)

theorem proved : Rows.FnTopSaid := over
end Go.Proofs.Ytjinaiggpngieaa.fnTop
