/- Contracts: WithoutIdle, the program's and the reference's. -/
import Derived.Test.YtelilimkcboioaaNb
import Derived.Test.YtelilimkcboioaaOwn
import Derived.Test.YtelilimkcboioaaUse
namespace Go.Proofs.Ytelilimkcboioaa
open Go.RowKit
set_option linter.unusedVariables false

def WiP (n : Int) (rows : List (List Int)) : Prop := NetP n rows ∧ True
/-- The first k rows but for those whose number is nought or less. -/
def keptTo (rows : List (List Int)) (us : List Int) : Nat → List (List Int)
  | 0 => []
  | k + 1 => if 0 < us.getD k 0 then keptTo rows us k ++ [rows.getD k []] else keptTo rows us k
theorem keptTo_yes {rows : List (List Int)} {us : List Int} {k : Nat} (h : 0 < us.getD k 0) : keptTo rows us (k + 1) = keptTo rows us k ++ [rows.getD k []] := by
  show (if 0 < us.getD k 0 then _ else _) = _; rw [if_pos h]
theorem keptTo_no {rows : List (List Int)} {us : List Int} {k : Nat} (h : ¬ 0 < us.getD k 0) : keptTo rows us (k + 1) = keptTo rows us k := by
  show (if 0 < us.getD k 0 then _ else _) = _; rw [if_neg h]
theorem keptTo_le (rows : List (List Int)) (us : List Int) (k : Nat) : (keptTo rows us k).length ≤ k := by
  induction k with
  | zero => exact Nat.le_refl _
  | succ k ih =>
    by_cases h : 0 < us.getD k 0
    · rw [keptTo_yes h, List.length_append]; simp; omega
    · rw [keptTo_no h]; omega
theorem keptTo_two (rows : List (List Int)) (us : List Int) (h : ∀ r ∈ rows, r.length ≤ 2) (k : Nat) : ∀ r ∈ keptTo rows us k, r.length ≤ 2 := by
  induction k with
  | zero => intro r hr; cases hr
  | succ k ih =>
    by_cases hu : 0 < us.getD k 0
    · rw [keptTo_yes hu]
      intro r hr
      rcases List.mem_append.1 hr with hr | hr
      · exact ih r hr
      · simp only [List.mem_singleton] at hr
        subst hr
        rcases Nat.lt_or_ge k rows.length with hk | hk
        · rw [List.getD_eq_getElem?_getD, List.getElem?_eq_getElem hk]; exact h _ (List.getElem_mem hk)
        · rw [List.getD_eq_getElem?_getD, List.getElem?_eq_none hk]; simp
    · rw [keptTo_no hu]; exact ih
theorem wi_le (n : Int) (rows : List (List Int)) : sumLen (nbR (WiP n rows) (keptTo rows (useL n.toNat (pairsOf rows)) rows.length)) ≤ 120 := nbR_le fun h => by
  have h1 := sumLen_le2 _ (keptTo_two rows (useL n.toNat (pairsOf rows)) (fun r hr => h.1.two r hr) rows.length)
  have h2 := h.1.2.1
  have h3 := keptTo_le rows (useL n.toNat (pairsOf rows)) rows.length
  omega

set_option maxHeartbeats 1600000 in
set_option maxRecDepth 100000 in
theorem implWithoutIdle (n : Int) (v : Value) (rows : List (List Int)) (w : World) (hn : (Lit.int .i64 n).wf = true) (h : IntSS w v rows) (hl : rows.length + sumLen rows ≤ 1048576) :
    Calls Try.prog 15 #[.agg #[.int .i64 n, v]] w (GivesNB w (nbN (WiP n rows) n) (nbR (WiP n rows) (keptTo rows (useL n.toNat (pairsOf rows)) rows.length)) (tf (WiP n rows))) := by
  have hk : Hid (∀ W, Below w.heap.size w W → IntSS W v rows) := fun W hb => h.keep (Below.keeps hb)
  obtain ⟨ao, cap, hv, hcap, hmax, _⟩ := h
  unfold maxLen at hmax
  clear hn hl
  rcases Classical.em (NetP n rows) with hN | hN
  · have ht := tf_yes hN
    have h60 := hN.2.1
    have hN0 := hN
    obtain ⟨N, rfl, hr, hp⟩ := hN.pairs
    have HN := Lib.hid hN0
    have HP := Lib.hid hp
    have HR := Lib.hid hr
    have hN8 := hp.2.1
    have hpl : (pairsOf rows).length = rows.length := by rw [pairsOf, List.length_map]
    have HL := Lib.hid hpl
    subst hv
    clear hN hN0 hp hr hpl
    have hP : WiP N rows := ⟨HN.out, trivial⟩
    rw [nbN_yes hP, nbR_yes hP, tf_yes hP]
    clear hP
    clear HN
    go_enter Try.func15, Try.ntmps15
    go_wp2_with fail
    refine (implNetworkOk _ _ rows _ (hk.out _ (((Below.refl _ _).alloc (Nat.le_refl _) _).alloc (by simp) _))).mono ?_; rintro e w1 ⟨rfl, b1⟩
    have r1 := (ResC.start (w.alloc (.cells #[.int .i64 N, .slice ao rows.length cap] 26)) 26).below b1 (by simp)
    rw [World.size_alloc] at r1
    have cx : w1.cell? ⟨w.heap.size, 0, none⟩ = some (.int .i64 N) := (b1.cell (by simp; omega)).trans (by simp [go_sem])
    have cy : w1.cell? ⟨w.heap.size, 1, none⟩ = some (.slice ao rows.length cap) := (b1.cell (by simp; omega)).trans (by simp [go_sem])
    have bw1 : Below w.heap.size w w1 := (((Below.refl _ _).alloc (Nat.le_refl _) _).alloc (by simp) _).trans (b1.mono (by simp; omega))
    have s1 : w.heap.size + 2 ≤ w1.heap.size := by have := b1.size; simpa using this
    have y1 : w.heap.size < w1.heap.size := by omega
    have y2 : w.heap.size + 1 < w1.heap.size := by omega
    go_wp2_with fail
    obtain ⟨w1a, HW1⟩ : ∃ W, Hid (W = w1.alloc (.cells #[.int .i64 N, .slice none 0 0] 26)) := ⟨_, rfl⟩
    rw [← HW1.out]
    have bO : Below w1.heap.size w1 w1a := by rw [HW1.out]; exact (Below.refl _ _).alloc (Nat.le_refl _) _
    have hS0 : NetIn w1.heap.size (w1.heap.size + 1) N [] w1a (.slice none 0 0) := by rw [HW1.out]; exact NetIn.start _ _ _
    have s1a : w1a.heap.size = w1.heap.size + 1 := by rw [HW1.out]; simp
    clear HW1
    have bw1a : Below w.heap.size w w1a := bw1.trans (bO.mono (by omega))
    refine (uses N _ (pairsOf rows) _ (by rw [← HR.out]; exact hk.out _ bw1a) HP.out).mono ?_; rintro e W1 ⟨u1, rfl, RU, bU⟩
    have hS := hS0.later bU
    have sU := bU.size
    have bwW : Below w.heap.size w W1 := bw1a.trans (bU.mono (by omega))
    have rW := (r1.below bO (by omega)).below bU (by omega)
    have cy1 : W1.cell? ⟨w.heap.size, 1, none⟩ = some (.slice ao rows.length cap) := (bU.cell (by show w.heap.size < _; omega)).trans ((bO.cell (by show w.heap.size < _; omega)).trans cy)
    obtain ⟨ao2, cap2, hu, hc2, hm2, _, hcellU⟩ := RU.ints
    have hul : (useL N (pairsOf rows)).length = rows.length := by rw [useL_length, HL.out]
    have HCU := Lib.hid hcellU
    have hltU : ∀ g, u1.ownBlock = some g → w1.heap.size + 1 ≤ g ∧ g < W1.heap.size := fun g hg => by have := RU.1.lt hg; omega
    rw [hul] at hu hc2
    subst hu
    unfold maxLen at hm2
    have haoU : ∀ b q, ao2 = some ⟨b, q, none⟩ → w1.heap.size + 1 ≤ b ∧ b < W1.heap.size := fun b q hb => by
      subst hb
      exact hltU b rfl
    clear hcellU RU hltU hS0
    have hI : IntSS w (.slice ao rows.length cap) (rowsOf (pairsOf rows)) := by rw [← HR.out]; exact hk.out w (Below.refl _ _)
    obtain ⟨ao', cap', hv', _, _, hnil, hcell⟩ := id hI
    simp only [Value.slice.injEq] at hv'
    obtain ⟨hv1, -, hv2⟩ := hv'
    subst hv1; subst hv2
    have HC := Lib.hid hcell; clear hcell hI
    obtain ⟨i0, hi, hz0, hz1, hz2⟩ := info_parts infoInts
    go_wp2
    go_loopw [17] (fun i wr => ∃ k : Nat, k ≤ rows.length ∧ i = .int .i64 k ∧ ∃ (u : Value), Hid (NetIn w1.heap.size W1.heap.size N (keptTo rows (useL N (pairsOf rows)) k) wr u) ∧ Hid (Kept w1.heap.size W1.heap.size W1 wr)) (fun i _ => rows.length - (intOf i).toNat)
    case atStart => exact ⟨0, Nat.zero_le _, rfl, _, Lib.hid hS, Lib.hid (Kept.refl _ _ _ (by omega))⟩
    case round =>
      obtain ⟨k, hk9, rfl, u, HN, HK⟩ := hrel
      have hb : Below w.heap.size w wr := bwW.trans (HK.out.1.mono (by omega))
      by_cases hlt : k < rows.length
      · obtain ⟨bu, qu, yu, rfl, hyu, rfl, _⟩ := HCU.out k (by rw [hul]; exact hlt)
        have hbu := haoU bu qu rfl
        have cu0 : wr.cell? ⟨bu, qu + k, none⟩ = some (.int .i64 ((useL N (pairsOf rows))[k]'(by rw [hul]; exact hlt))) := (HK.out.cell (by show bu ≠ _; omega) (by show bu < _; omega)).trans hyu
        have hgd : (useL N (pairsOf rows)).getD k 0 = (useL N (pairsOf rows))[k]'(by rw [hul]; exact hlt) := by
          rw [List.getD_eq_getElem?_getD, List.getElem?_eq_getElem (by rw [hul]; exact hlt)]; rfl
        obtain ⟨z, HZ⟩ : ∃ z, Hid ((useL N (pairsOf rows))[k]'(by rw [hul]; exact hlt) = z) := ⟨_, Lib.hid rfl⟩
        rw [HZ.out] at cu0 hgd
        clear HZ hyu
        by_cases hz : 0 < z
        · have hzb : decide (z > 0) = true := decide_eq_true hz
          have HD : Hid (keptTo rows (useL N (pairsOf rows)) (k + 1) = keptTo rows (useL N (pairsOf rows)) k ++ [rows.getD k []]) := keptTo_yes (by rw [hgd]; exact hz)
          clear hz hgd
          obtain ⟨b, q, x, rfl, hx, hIx⟩ := HC.out k (by rw [← HR.out]; exact hlt)
          have c0 : wr.cell? ⟨w.heap.size, 1, none⟩ = some (.slice (some ⟨b, q, none⟩) rows.length cap) := (HK.out.cell (by show w.heap.size ≠ _; omega) (by show w.heap.size < _; omega)).trans cy1
          have c1 := Below.keeps hb _ _ hx
          have hlp : k < (pairsOf rows).length := by rw [HL.out]; exact hlt
          rw [rowsOf_get (pairsOf rows) k hlp] at hIx
          have hg0 : rows.getD k [] = [((pairsOf rows)[k].1 : Int), ((pairsOf rows)[k].2 : Int)] := by
            have := rowsOf_getD (pairsOf rows) k hlp
            rwa [← HR.out] at this
          rw [hg0] at HD
          clear hg0
          have HX : Hid (Ints wr.drew x [((pairsOf rows)[k].1 : Int), ((pairsOf rows)[k].2 : Int)]) := hIx.keep (fun a y ha => Below.keeps hb _ _ ha)
          obtain ⟨ax, lx, cx9, hxv⟩ : ∃ a l c, x = .slice a l c := by obtain ⟨a, c, e, _⟩ := hIx; exact ⟨_, _, _, e⟩
          subst hxv
          have hbw : b < w.heap.size := World.block_lt_of_cell? w _ hx
          clear hx hIx
          obtain ⟨⟨vs, hO, hR⟩, cn, cu2, cf2, hB, hlo⟩ := HN.out
          have HO := Lib.hid hO
          have HW := Lib.hid hR
          have HU : Hid (∀ g, g < W1.heap.size → some g ≠ u.ownBlock) := fun g hg e => by have := HO.out.lt e.symm; omega
          have hvl : vs.length ≤ 60 := by have := HW.out.1; have := keptTo_le rows (useL N (pairsOf rows)) k; omega
          have hB2 : w1.heap.size < wr.heap.size := by omega
          have hB3 : w1.heap.size < wr.heap.size + 1 := by omega
          clear hO hR HN
          generalize ((pairsOf rows)[k].1 : Int) = pa at *
          generalize ((pairsOf rows)[k].2 : Int) = pb at *
          go_wp2
          rw [show Op.load 22 (Operand.tmp 24) = ldOp 22 (Operand.tmp 24) from rfl]
          go_region_held3 (fun w' => w'.cell? ⟨w.heap.size, 1, none⟩ = some (.slice (some ⟨b, q, none⟩) rows.length cap) ∧ w'.cell? ⟨b, q + k, none⟩ = some (.slice ax lx cx9)) ((go_split_ands; refine ⟨?_, ?_⟩ <;> (first | assumption | exact cell_al (by assumption) | exact cell_st (by assumption) (by first | (simp; done) | (simp; omega)) | exact cell_gr hgrow (by assumption) (HU.out _ (by first | (simp; done) | (simp; omega))) | exact Below.keeps b2 _ _ (by assumption)))) ((first
                    | (refine step_append_lies _ (by rfl) (.tmp 25) (.tmp 32) 22 (by rfl) (W1.heap.size) tInts i0 (.slice none 0 0) 1 24 Try.underlying22 hi hz0 hz1 hz2 rfl (by decide) u vs.length vs (by simp [Act.eval]) (by exact ((HO.out.below b2 (Nat.le_refl _)).1.alloc _)) ⟨w2.heap.size, 0, none⟩ 1 1 [.slice a2 l2 cp2] (by simp [Act.eval]) (by rfl) (by exact news_one _ _ _) (by simp [Value.oneCell']) (by decide) (by unfold maxLen; omega) (by omega) (by simp; omega) (w2.heap.size + 1) (by simp) ?_; intro g cap2 w1 hown hgrow hat hlt2; have zz := after_new (b2.alloc (by exact b2.size) _) hgrow cu2 cf2 (HU.out _ (by first | (simp; done) | (simp; omega))); obtain ⟨z1, z2⟩ := zz)
                    | (go_at_call 45; refine (cloneI _ [pa, pb] _ HX.out (by simp) (by simp)).mono ?_; rintro e w2 ⟨v2, rfl, R2, b9⟩; have b2 : Below wr.heap.size wr w2 := (Below.refl _ wr).drew.trans b9; clear b9; obtain ⟨a2, l2, cp2, hv2⟩ := R2.shape; subst hv2; have s2 := b2.size; have k1 := Below.keeps b2 _ _ cu2; have k2 := (b2.frozen (p := ⟨w1.heap.size, 1, none⟩) hB2).trans cf2; have k3 : w1.heap.size < w2.heap.size := Nat.lt_of_lt_of_le hB2 s2)))
          all_goals
            obtain ⟨P, Q⟩ := NetIn.push (n := N) HO.out HW.out cn cu2 cf2 hB hlo (b2.alloc (by exact b2.size) _) ((R2.below ((Below.refl _ _).alloc (Nat.le_refl _) _) (Nat.le_refl _)).wide (by exact Nat.le_refl _) (by simp)) (by simp) hown hgrow HK.out
            rw [← HD.out] at P
            clear hown hgrow hat hlt2 z1 z2 HO HW R2 b2 k1 k2 k3
            go_wp2
            go_roundw
            case rel => exact ⟨k + 1, by omega, by go_num, _, Lib.hid P, Lib.hid Q⟩
            case measure => first | (simp [intOf]; done) | (simp [intOf]; omega)
        · have hzb : decide (z > 0) = false := decide_eq_false hz
          have HD : Hid (keptTo rows (useL N (pairsOf rows)) (k + 1) = keptTo rows (useL N (pairsOf rows)) k) := keptTo_no (by rw [hgd]; exact hz)
          clear hz hgd
          go_wp2
          go_roundw
          case rel => exact ⟨k + 1, by omega, by go_num, u, Lib.hid (by rw [HD.out]; exact HN.out), HK⟩
          case measure => first | (simp [intOf]; done) | (simp [intOf]; omega)
      · have hk' : k = rows.length := by omega
        subst hk'
        obtain ⟨hR, cn, cu, cf, hB, hlo⟩ := HN.out
        obtain ⟨d0, d1, f0, f1, _⟩ := rW.below HK.out.1 (by omega)
        obtain ⟨a3, l3, c3, hu⟩ := hR.shape
        subst hu
        have bwr : Below w.heap.size w wr := bwW.trans (HK.out.1.mono (by omega))
        obtain ⟨RR, BB⟩ := hR.res (R := w.heap.size + 1) (x := .int .i64 N) (y := .slice a3 l3 c3) (by omega) bwr (by omega)
        clear hR HN HK
        go_wp2
        exact bodyPost_ret (v := .tuple #[.agg #[.int .i64 N, .slice a3 l3 c3], .bool true]) (by simp [results, Try.results15, go_sem, d0, d1]) rfl ⟨_, rfl, RR, BB⟩
  · have ht := tf_no hN
    have hNP : ¬ (WiP n rows) := fun h => hN (And.left h)
    rw [nbN_no hNP, nbR_no hNP, tf_no hNP]
    clear hNP
    subst hv
    clear hN
    go_enter Try.func15, Try.ntmps15
    go_wp2_with fail
    refine (implNetworkOk _ _ rows _ (hk.out _ (((Below.refl _ _).alloc (Nat.le_refl _) _).alloc (by simp) _))).mono ?_; rintro e w1 ⟨rfl, b1⟩
    obtain ⟨d0, d1, f0, f1, _⟩ := (ResC.start (w.alloc (.cells #[.int .i64 n, .slice ao rows.length cap] 26)) 26).below b1 (by simp)
    rw [World.size_alloc] at d0 d1 f0 f1
    have bw : Below w.heap.size w w1 := (((Below.refl _ _).alloc (Nat.le_refl _) _).alloc (by simp) _).trans (b1.mono (by simp; omega))
    go_wp2
    exact bodyPost_ret (v := .tuple #[.agg #[.int .i64 0, .slice none 0 0], .bool false]) (by simp [results, Try.results15, go_sem, d0, d1]) rfl ⟨_, rfl, OwnSS.nil _ _ _ _ _, (bw.setCell (by simp) _).setCell (by simp) _⟩

set_option maxHeartbeats 1600000 in
set_option maxRecDepth 100000 in
theorem specWithoutIdle (n : Int) (v : Value) (rows : List (List Int)) (w : World) (hn : (Lit.int .i64 n).wf = true) (h : IntSS w v rows) (hl : rows.length + sumLen rows ≤ 1048576) :
    Calls Try.prog 13 #[.agg #[.int .i64 n, v]] w (GivesNB w (nbN (WiP n rows) n) (nbR (WiP n rows) (keptTo rows (useL n.toNat (pairsOf rows)) rows.length)) (tf (WiP n rows))) := by
  have hk : Hid (∀ W, Below w.heap.size w W → IntSS W v rows) := fun W hb => h.keep (Below.keeps hb)
  obtain ⟨ao, cap, hv, hcap, hmax, _⟩ := h
  unfold maxLen at hmax
  clear hn hl
  rcases Classical.em (NetP n rows) with hN | hN
  · have ht := tf_yes hN
    have h60 := hN.2.1
    have hN0 := hN
    obtain ⟨N, rfl, hr, hp⟩ := hN.pairs
    have HN := Lib.hid hN0
    have HP := Lib.hid hp
    have HR := Lib.hid hr
    have hN8 := hp.2.1
    have hpl : (pairsOf rows).length = rows.length := by rw [pairsOf, List.length_map]
    have HL := Lib.hid hpl
    subst hv
    clear hN hN0 hp hr hpl
    have hP : WiP N rows := ⟨HN.out, trivial⟩
    rw [nbN_yes hP, nbR_yes hP, tf_yes hP]
    clear hP
    clear HN
    go_enter Try.func13, Try.ntmps13
    go_wp2_with fail
    refine (specNetworkOk _ _ rows _ (hk.out _ (((Below.refl _ _).alloc (Nat.le_refl _) _).alloc (by simp) _))).mono ?_; rintro e w1 ⟨rfl, b1⟩
    have r1 := (ResC.start (w.alloc (.cells #[.int .i64 N, .slice ao rows.length cap] 26)) 26).below b1 (by simp)
    rw [World.size_alloc] at r1
    have cx : w1.cell? ⟨w.heap.size, 0, none⟩ = some (.int .i64 N) := (b1.cell (by simp; omega)).trans (by simp [go_sem])
    have cy : w1.cell? ⟨w.heap.size, 1, none⟩ = some (.slice ao rows.length cap) := (b1.cell (by simp; omega)).trans (by simp [go_sem])
    have bw1 : Below w.heap.size w w1 := (((Below.refl _ _).alloc (Nat.le_refl _) _).alloc (by simp) _).trans (b1.mono (by simp; omega))
    have s1 : w.heap.size + 2 ≤ w1.heap.size := by have := b1.size; simpa using this
    have y1 : w.heap.size < w1.heap.size := by omega
    have y2 : w.heap.size + 1 < w1.heap.size := by omega
    go_wp2_with fail
    obtain ⟨w1a, HW1⟩ : ∃ W, Hid (W = w1.alloc (.cells #[.int .i64 N, .slice none 0 0] 26)) := ⟨_, rfl⟩
    rw [← HW1.out]
    have bO : Below w1.heap.size w1 w1a := by rw [HW1.out]; exact (Below.refl _ _).alloc (Nat.le_refl _) _
    have hS0 : NetIn w1.heap.size (w1.heap.size + 1) N [] w1a (.slice none 0 0) := by rw [HW1.out]; exact NetIn.start _ _ _
    have s1a : w1a.heap.size = w1.heap.size + 1 := by rw [HW1.out]; simp
    clear HW1
    have bw1a : Below w.heap.size w w1a := bw1.trans (bO.mono (by omega))
    refine (l06Use N _ (pairsOf rows) _ (by rw [← HR.out]; exact hk.out _ bw1a) HP.out).mono ?_; rintro e W1 ⟨u1, rfl, RU, bU⟩
    have hS := hS0.later bU
    have sU := bU.size
    have bwW : Below w.heap.size w W1 := bw1a.trans (bU.mono (by omega))
    have rW := (r1.below bO (by omega)).below bU (by omega)
    have cy1 : W1.cell? ⟨w.heap.size, 1, none⟩ = some (.slice ao rows.length cap) := (bU.cell (by show w.heap.size < _; omega)).trans ((bO.cell (by show w.heap.size < _; omega)).trans cy)
    obtain ⟨ao2, cap2, hu, hc2, hm2, _, hcellU⟩ := RU.ints
    have hul : (useL N (pairsOf rows)).length = rows.length := by rw [useL_length, HL.out]
    have HCU := Lib.hid hcellU
    have hltU : ∀ g, u1.ownBlock = some g → w1.heap.size + 1 ≤ g ∧ g < W1.heap.size := fun g hg => by have := RU.1.lt hg; omega
    rw [hul] at hu hc2
    subst hu
    unfold maxLen at hm2
    have haoU : ∀ b q, ao2 = some ⟨b, q, none⟩ → w1.heap.size + 1 ≤ b ∧ b < W1.heap.size := fun b q hb => by
      subst hb
      exact hltU b rfl
    clear hcellU RU hltU hS0
    have hI : IntSS w (.slice ao rows.length cap) (rowsOf (pairsOf rows)) := by rw [← HR.out]; exact hk.out w (Below.refl _ _)
    obtain ⟨ao', cap', hv', _, _, hnil, hcell⟩ := pairs_open hI
    simp only [Value.slice.injEq] at hv'
    obtain ⟨hv1, -, hv2⟩ := hv'
    subst hv1; subst hv2
    have HC := Lib.hid hcell; clear hcell hI
    obtain ⟨i0, hi, hz0, hz1, hz2⟩ := info_parts infoInts
    go_wp2
    go_loopw [17] (fun i wr => ∃ k : Nat, k ≤ rows.length ∧ i = .int .i64 k ∧ ∃ (u : Value), Hid (NetIn w1.heap.size W1.heap.size N (keptTo rows (useL N (pairsOf rows)) k) wr u) ∧ Hid (Kept w1.heap.size W1.heap.size W1 wr)) (fun i _ => rows.length - (intOf i).toNat)
    case atStart => exact ⟨0, Nat.zero_le _, rfl, _, Lib.hid hS, Lib.hid (Kept.refl _ _ _ (by omega))⟩
    case round =>
      obtain ⟨k, hk9, rfl, u, HN, HK⟩ := hrel
      have hb : Below w.heap.size w wr := bwW.trans (HK.out.1.mono (by omega))
      by_cases hlt : k < rows.length
      · obtain ⟨bu, qu, yu, rfl, hyu, rfl, _⟩ := HCU.out k (by rw [hul]; exact hlt)
        have hbu := haoU bu qu rfl
        have cu0 : wr.cell? ⟨bu, qu + k, none⟩ = some (.int .i64 ((useL N (pairsOf rows))[k]'(by rw [hul]; exact hlt))) := (HK.out.cell (by show bu ≠ _; omega) (by show bu < _; omega)).trans hyu
        have hgd : (useL N (pairsOf rows)).getD k 0 = (useL N (pairsOf rows))[k]'(by rw [hul]; exact hlt) := by
          rw [List.getD_eq_getElem?_getD, List.getElem?_eq_getElem (by rw [hul]; exact hlt)]; rfl
        obtain ⟨z, HZ⟩ : ∃ z, Hid ((useL N (pairsOf rows))[k]'(by rw [hul]; exact hlt) = z) := ⟨_, Lib.hid rfl⟩
        rw [HZ.out] at cu0 hgd
        clear HZ hyu
        by_cases hz : 0 < z
        · have hzb : decide (z > 0) = true := decide_eq_true hz
          have HD : Hid (keptTo rows (useL N (pairsOf rows)) (k + 1) = keptTo rows (useL N (pairsOf rows)) k ++ [rows.getD k []]) := keptTo_yes (by rw [hgd]; exact hz)
          clear hz hgd
          have hlp : k < (pairsOf rows).length := by rw [HL.out]; exact hlt
          obtain ⟨b, q, x, po, pc, rfl, hu9, g1, g2, d0, d1⟩ := HC.out k hlp
          have c0 : wr.cell? ⟨w.heap.size, 1, none⟩ = some (.slice (some ⟨b, q, none⟩) rows.length cap) := (HK.out.cell (by show w.heap.size ≠ _; omega) (by show w.heap.size < _; omega)).trans cy1
          have c1 := Below.keeps hb _ _ hu9
          have c2 := Below.keeps hb _ _ d0
          have c3 := Below.keeps hb _ _ d1
          have hxw : x < w.heap.size := World.block_lt_of_cell? w _ d0
          have hbw : b < w.heap.size := World.block_lt_of_cell? w _ hu9
          unfold maxLen at g2
          clear hu9 d0 d1
          have hg0 : rows.getD k [] = [((pairsOf rows)[k].1 : Int), ((pairsOf rows)[k].2 : Int)] := by
            have := rowsOf_getD (pairsOf rows) k hlp
            rwa [← HR.out] at this
          rw [hg0] at HD
          clear hg0
          have hw1 : In64 ((pairsOf rows)[k].1 : Int) := WalkArith.wf_i64 (by have := HP.out.2.2.2 k hlp; omega)
          have hw2 : In64 ((pairsOf rows)[k].2 : Int) := WalkArith.wf_i64 (by have := HP.out.2.2.2 k hlp; omega)
          obtain ⟨⟨vs, hO, hR⟩, cn, cu2, cf2, hB, hlo⟩ := HN.out
          have HO := Lib.hid hO
          have HW := Lib.hid hR
          have HU : Hid (∀ g, g < W1.heap.size → some g ≠ u.ownBlock) := fun g hg e => by have := HO.out.lt e.symm; omega
          have hvl : vs.length ≤ 60 := by have := HW.out.1; have := keptTo_le rows (useL N (pairsOf rows)) k; omega
          have hB2 : w1.heap.size < wr.heap.size := by omega
          have hB3 : w1.heap.size < wr.heap.size + 1 := by omega
          clear hO hR HN
          generalize ((pairsOf rows)[k].1 : Int) = pa at *
          generalize ((pairsOf rows)[k].2 : Int) = pb at *
          go_wp2
          rw [show Op.load 22 (Operand.tmp 24) = ldOp 22 (Operand.tmp 24) from rfl]
          go_region_held3 (fun w' => w'.cell? ⟨w.heap.size, 1, none⟩ = some (.slice (some ⟨b, q, none⟩) rows.length cap) ∧ w'.cell? ⟨b, q + k, none⟩ = some (.slice (some ⟨x, po, none⟩) 2 pc) ∧ w'.cell? ⟨x, po, none⟩ = some (.int .i64 pa) ∧ w'.cell? ⟨x, po + 1, none⟩ = some (.int .i64 pb)) ((go_split_ands; refine ⟨?_, ?_, ?_, ?_⟩ <;> (first | assumption | exact cell_al (by assumption) | exact cell_st (by assumption) (by first | (simp; done) | (simp; omega)) | exact cell_gr hgrow (by assumption) (HU.out _ (by first | (simp; done) | (simp; omega))) | exact Below.keeps b2 _ _ (by assumption)))) ((refine step_append_lies _ (by rfl) (.tmp 25) (.tmp 41) 22 (by rfl) (W1.heap.size) tInts i0 (.slice none 0 0) 1 24 Try.underlying22 hi hz0 hz1 hz2 rfl (by decide) u vs.length vs (by first | rfl | simp [Act.eval]) (by exact (HO.out.1.alloc _ |>.alloc _)) ⟨wr.heap.size + 1, 0, none⟩ 1 1 [.slice (some ⟨wr.heap.size, 0, none⟩) 2 2] (by simp [Act.eval]) (by rfl) (by exact news_two _ _ _ _) (by simp [Value.oneCell']) (by decide) (by unfold maxLen; omega) (by omega) (by simp; omega) (wr.heap.size + 2) (by simp) ?_; intro g cap2 w1 hown hgrow hat hlt2; have zz := after_new (below_two _ _ _) hgrow cu2 cf2 (HU.out _ (by first | (simp; done) | (simp; omega))); obtain ⟨z1, z2⟩ := zz))
          all_goals
            obtain ⟨P, Q⟩ := NetIn.push (n := N) HO.out HW.out cn cu2 cf2 hB hlo (below_two _ _ _) (pair_two _ _ _ hw1 hw2 _) (by simp) hown hgrow HK.out
            rw [← HD.out] at P
            clear hown hgrow hat hlt2 z1 z2 HO HW
            go_wp2
            go_roundw
            case rel => exact ⟨k + 1, by omega, by go_num, _, Lib.hid P, Lib.hid Q⟩
            case measure => first | (simp [intOf]; done) | (simp [intOf]; omega)
        · have hzb : decide (z > 0) = false := decide_eq_false hz
          have HD : Hid (keptTo rows (useL N (pairsOf rows)) (k + 1) = keptTo rows (useL N (pairsOf rows)) k) := keptTo_no (by rw [hgd]; exact hz)
          clear hz hgd
          go_wp2
          go_roundw
          case rel => exact ⟨k + 1, by omega, by go_num, u, Lib.hid (by rw [HD.out]; exact HN.out), HK⟩
          case measure => first | (simp [intOf]; done) | (simp [intOf]; omega)
      · have hk' : k = rows.length := by omega
        subst hk'
        obtain ⟨hR, cn, cu, cf, hB, hlo⟩ := HN.out
        obtain ⟨d0, d1, f0, f1, _⟩ := rW.below HK.out.1 (by omega)
        obtain ⟨a3, l3, c3, hu⟩ := hR.shape
        subst hu
        have bwr : Below w.heap.size w wr := bwW.trans (HK.out.1.mono (by omega))
        obtain ⟨RR, BB⟩ := hR.res (R := w.heap.size + 1) (x := .int .i64 N) (y := .slice a3 l3 c3) (by omega) bwr (by omega)
        clear hR HN HK
        go_wp2
        exact bodyPost_ret (v := .tuple #[.agg #[.int .i64 N, .slice a3 l3 c3], .bool true]) (by simp [results, Try.results13, go_sem, d0, d1]) rfl ⟨_, rfl, RR, BB⟩
  · have ht := tf_no hN
    have hNP : ¬ (WiP n rows) := fun h => hN (And.left h)
    rw [nbN_no hNP, nbR_no hNP, tf_no hNP]
    clear hNP
    subst hv
    clear hN
    go_enter Try.func13, Try.ntmps13
    go_wp2_with fail
    refine (specNetworkOk _ _ rows _ (hk.out _ (((Below.refl _ _).alloc (Nat.le_refl _) _).alloc (by simp) _))).mono ?_; rintro e w1 ⟨rfl, b1⟩
    obtain ⟨d0, d1, f0, f1, _⟩ := (ResC.start (w.alloc (.cells #[.int .i64 n, .slice ao rows.length cap] 26)) 26).below b1 (by simp)
    rw [World.size_alloc] at d0 d1 f0 f1
    have bw : Below w.heap.size w w1 := (((Below.refl _ _).alloc (Nat.le_refl _) _).alloc (by simp) _).trans (b1.mono (by simp; omega))
    go_wp2
    exact bodyPost_ret (v := .tuple #[.agg #[.int .i64 0, .slice none 0 0], .bool false]) (by simp [results, Try.results13, go_sem, d0, d1]) rfl ⟨_, rfl, OwnSS.nil _ _ _ _ _, (bw.setCell (by simp) _).setCell (by simp) _⟩

end Go.Proofs.Ytelilimkcboioaa
