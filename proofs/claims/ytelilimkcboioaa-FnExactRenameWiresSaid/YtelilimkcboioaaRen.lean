/- Contracts: renamed, PlaceNetwork, RenameWires, MirrorNetwork. -/
import Derived.Test.YtelilimkcboioaaNb
import Derived.Test.YtelilimkcboioaaOwn
import Derived.Test.YtelilimkcboioaaRowOps
namespace Go.Proofs.Ytelilimkcboioaa
open Go.RowKit
set_option linter.unusedVariables false

/-- The pairs, each turned into a row by g. -/
def renL (g : Nat → Nat → Int × Int) (ps : List (Nat × Nat)) : List (List Int) := ps.map fun p => [(g p.1 p.2).1, (g p.1 p.2).2]
theorem renL_length (g : Nat → Nat → Int × Int) (ps : List (Nat × Nat)) : (renL g ps).length = ps.length := by simp [renL]
theorem renL_next (g : Nat → Nat → Int × Int) (ps : List (Nat × Nat)) (k : Nat) (h : k < ps.length) : (renL g ps).take (k + 1) = (renL g ps).take k ++ [[(g ps[k].1 ps[k].2).1, (g ps[k].1 ps[k].2).2]] := by
  rw [take_next _ k (by rw [renL_length]; exact h)]; simp [renL]
theorem renL_le (g : Nat → Nat → Int × Int) (ps : List (Nat × Nat)) (h : ps.length ≤ 60) : sumLen (renL g ps) ≤ 120 := by
  have := sumLen_le2 (renL g ps) (by intro r hr; simp [renL] at hr; obtain ⟨a, b, _, rfl⟩ := hr; simp)
  rw [renL_length] at this; omega
theorem nbRen_le {p : Prop} {n : Int} {rows : List (List Int)} (g : Nat → Nat → Int × Int) (h : p → NetP n rows) : sumLen (nbR p (renL g (pairsOf rows))) ≤ 120 := nbR_le fun hp => by
  obtain ⟨m, _, _, h2⟩ := (h hp).pairs
  exact renL_le g _ h2.2.2.1

def MirP (n : Int) (rows : List (List Int)) : Prop := NetP n rows ∧ True
def mirL (n : Int) (rows : List (List Int)) : List (List Int) := renL (fun a b => ((n : Int) - 1 - (b : Int), (n : Int) - 1 - (a : Int))) (pairsOf rows)
theorem mir_le (n : Int) (rows : List (List Int)) : sumLen (nbR (MirP n rows) (mirL n rows)) ≤ 120 := nbRen_le _ (fun h => h.1)

set_option maxHeartbeats 1600000 in
set_option maxRecDepth 100000 in
theorem specMirrorNetwork (n : Int) (v : Value) (rows : List (List Int)) (w : World) (hn : (Lit.int .i64 n).wf = true) (h : IntSS w v rows) (hl : rows.length + sumLen rows ≤ 1048576) :
    Calls Try.prog 37 #[.agg #[.int .i64 n, v]] w (GivesNB w (nbN (MirP n rows) n) (nbR (MirP n rows) (mirL n rows)) (tf (MirP n rows))) := by
  have hk : Hid (∀ W, Below w.heap.size w W → IntSS W v rows) := fun W hb => h.keep (Below.keeps hb)
  obtain ⟨ao, cap, hv, hcap, hmax, _⟩ := h
  unfold maxLen at hmax
  clear hn hl
  rcases Classical.em (NetP n rows) with hN | hN
  · have ht := tf_yes hN
    have h60 := hN.2.1
    have hN0 := hN
    obtain ⟨N, rfl, hr, hp⟩ := hN.pairs
    have HN := Lib.hid hN0
    have HP := Lib.hid hp
    have HR := Lib.hid hr
    have hN8 := hp.2.1
    have hpl : (pairsOf rows).length = rows.length := by rw [pairsOf, List.length_map]
    have HL := Lib.hid hpl
    subst hv
    clear hN hN0 hp hr hpl
    have hP : MirP N rows := ⟨HN.out, trivial⟩
    rw [nbN_yes hP, nbR_yes hP, tf_yes hP]
    clear hP
    clear HN
    unfold mirL
    go_enter Try.func37, Try.ntmps37
    go_wp2_with fail
    refine (specNetworkOk _ _ rows _ (hk.out _ (((Below.refl _ _).alloc (Nat.le_refl _) _).alloc (by simp) _))).mono ?_; rintro e w1 ⟨rfl, b1⟩
    have r1 := (ResC.start (w.alloc (.cells #[.int .i64 N, .slice ao rows.length cap] 26)) 26).below b1 (by simp)
    rw [World.size_alloc] at r1
    have cx : w1.cell? ⟨w.heap.size, 0, none⟩ = some (.int .i64 N) := (b1.cell (by simp; omega)).trans (by simp [go_sem])
    have cy : w1.cell? ⟨w.heap.size, 1, none⟩ = some (.slice ao rows.length cap) := (b1.cell (by simp; omega)).trans (by simp [go_sem])
    have bw1 : Below w.heap.size w w1 := (((Below.refl _ _).alloc (Nat.le_refl _) _).alloc (by simp) _).trans (b1.mono (by simp; omega))
    have s1 : w.heap.size + 2 ≤ w1.heap.size := by have := b1.size; simpa using this
    have y1 : w.heap.size < w1.heap.size := by omega
    have y2 : w.heap.size + 1 < w1.heap.size := by omega
    have rW0 := r1
    have bW0 := bw1
    obtain ⟨W1, HW1⟩ : ∃ W, Hid (W = w1.alloc (.cells #[.int .i64 N, .slice none 0 0] 26)) := ⟨_, rfl⟩
    have bO : Below w1.heap.size w1 W1 := by rw [HW1.out]; exact (Below.refl _ _).alloc (Nat.le_refl _) _
    have hS : NetIn w1.heap.size (w1.heap.size + 1) N [] W1 (.slice none 0 0) := by rw [HW1.out]; exact NetIn.start _ _ _
    have bwW : Below w.heap.size w W1 := bW0.trans (bO.mono (by omega))
    have rW := rW0.below bO (by omega)
    have hI : IntSS w (.slice ao rows.length cap) (rowsOf (pairsOf rows)) := by rw [← HR.out]; exact hk.out w (Below.refl _ _)
    obtain ⟨ao', cap', hv', _, _, hnil, hcell⟩ := pairs_open hI
    simp only [Value.slice.injEq] at hv'
    obtain ⟨hv1, -, hv2⟩ := hv'
    subst hv1; subst hv2
    have HC := Lib.hid hcell; clear hcell hI
    have s2 : w1.heap.size + 1 ≤ W1.heap.size := by rw [HW1.out]; simp
    have cx1 : W1.cell? ⟨w.heap.size, 0, none⟩ = some (.int .i64 N) := (bO.cell (by show w.heap.size < _; omega)).trans cx
    obtain ⟨i0, hi, hz0, hz1, hz2⟩ := info_parts infoInts
    go_wp2
    rw [← HW1.out]
    clear HW1
    go_loopw [17] (fun i wr => ∃ k : Nat, k ≤ rows.length ∧ i = .int .i64 k ∧ ∃ (u : Value), Hid (NetIn w1.heap.size (w1.heap.size + 1) N ((renL (fun a b => ((N : Int) - 1 - (b : Int), (N : Int) - 1 - (a : Int))) (pairsOf rows)).take k) wr u) ∧ Hid (Kept w1.heap.size (w1.heap.size + 1) W1 wr)) (fun i _ => rows.length - (intOf i).toNat)
    case atStart => exact ⟨0, Nat.zero_le _, rfl, _, Lib.hid hS, Lib.hid (Kept.refl _ _ _ (by omega))⟩
    case round =>
      obtain ⟨k, hk9, rfl, u, HN, HK⟩ := hrel
      have hb : Below w.heap.size w wr := bwW.trans (HK.out.1.mono (by omega))
      by_cases hlt : k < rows.length
      · have hlp : k < (pairsOf rows).length := by rw [HL.out]; exact hlt
        obtain ⟨b, q, x, po, pc, rfl, hu, g1, g2, d0, d1⟩ := HC.out k hlp
        have c1 := Below.keeps hb _ _ hu
        have c2 := Below.keeps hb _ _ d0
        have c3 := Below.keeps hb _ _ d1
        have hxw : x < w.heap.size := World.block_lt_of_cell? w _ d0
        have hbw : b < w.heap.size := World.block_lt_of_cell? w _ hu
        unfold maxLen at g2
        clear hu d0 d1
        have HD : Hid ((renL (fun a b => ((N : Int) - 1 - (b : Int), (N : Int) - 1 - (a : Int))) (pairsOf rows)).take (k + 1) = (renL (fun a b => ((N : Int) - 1 - (b : Int), (N : Int) - 1 - (a : Int))) (pairsOf rows)).take k ++ [[((fun a b => ((N : Int) - 1 - (b : Int), (N : Int) - 1 - (a : Int))) (pairsOf rows)[k].1 (pairsOf rows)[k].2).1, ((fun a b => ((N : Int) - 1 - (b : Int), (N : Int) - 1 - (a : Int))) (pairsOf rows)[k].1 (pairsOf rows)[k].2).2]]) := renL_next _ _ k hlp
        have hia := (HP.out.2.2.2 k hlp).1
        have hib := (HP.out.2.2.2 k hlp).2.1
        obtain ⟨⟨vs, hO, hR⟩, cn, cu2, cf2, hB, hlo⟩ := HN.out
        have HO := Lib.hid hO
        have HW := Lib.hid hR
        have HU : Hid (∀ g, g < w1.heap.size + 1 → some g ≠ u.ownBlock) := fun g hg e => by have := HO.out.lt e.symm; omega
        have hvl : vs.length ≤ 60 := by have := HW.out.1; rw [List.length_take, renL_length] at this; omega
        have hB2 : w1.heap.size < wr.heap.size := by omega
        have hB3 : w1.heap.size < wr.heap.size + 1 := by omega
        clear hO hR HN
        generalize (pairsOf rows)[k].1 = ia at *
        generalize (pairsOf rows)[k].2 = ib at *
        have c0 : wr.cell? ⟨w.heap.size, 0, none⟩ = some (.int .i64 N) := (HK.out.cell (by show w.heap.size ≠ _; omega) (by show w.heap.size < _; omega)).trans cx1
        have hwa : In64 ((N : Int) - 1 - (ib : Int)) := WalkArith.wf_i64 (by omega)
        have q1 : IntKind.i64.wrap ((N : Int) - 1) = (N : Int) - 1 := IntWalk.i64_in _ ⟨by omega, by omega⟩
        have q2 : IntKind.i64.wrap ((N : Int) - 1 - (ib : Int)) = (N : Int) - 1 - (ib : Int) := IntWalk.i64_in _ ⟨by omega, by omega⟩
        have q3 : IntKind.i64.wrap ((N : Int) - 1 - (ia : Int)) = (N : Int) - 1 - (ia : Int) := IntWalk.i64_in _ ⟨by omega, by omega⟩
        have hwb : In64 ((N : Int) - 1 - (ia : Int)) := WalkArith.wf_i64 (by omega)
        go_wp2
        rw [show Op.load 22 (Operand.tmp 21) = ldOp 22 (Operand.tmp 21) from rfl]
        go_region_held3 (fun w' => w'.cell? ⟨w.heap.size, 0, none⟩ = some (.int .i64 N) ∧ w'.cell? ⟨x, po, none⟩ = some (.int .i64 ia) ∧ w'.cell? ⟨x, po + 1, none⟩ = some (.int .i64 ib)) ((go_split_ands; refine ⟨?_, ?_, ?_⟩ <;> (first | assumption | exact cell_al (by assumption) | exact cell_st (by assumption) (by first | (simp; done) | (simp; omega)) | exact cell_gr hgrow (by assumption) (HU.out _ (by first | (simp; done) | (simp; omega))) | exact Below.keeps b2 _ _ (by assumption)))) ((refine step_append_lies _ (by rfl) (.tmp 22) (.tmp 38) 22 (by rfl) (w1.heap.size + 1) tInts i0 (.slice none 0 0) 1 24 Try.underlying22 hi hz0 hz1 hz2 rfl (by decide) u vs.length vs (by first | rfl | simp [Act.eval]) (by exact (HO.out.1.alloc _ |>.alloc _)) ⟨wr.heap.size + 1, 0, none⟩ 1 1 [.slice (some ⟨wr.heap.size, 0, none⟩) 2 2] (by simp [Act.eval]) (by rfl) (by exact news_two _ _ _ _) (by simp [Value.oneCell']) (by decide) (by unfold maxLen; omega) (by omega) (by simp; omega) (wr.heap.size + 2) (by simp) ?_; intro g cap2 w1 hown hgrow hat hlt2; have zz := after_new (below_two _ _ _) hgrow cu2 cf2 (HU.out _ (by first | (simp; done) | (simp; omega))); obtain ⟨z1, z2⟩ := zz))
        all_goals
          obtain ⟨P, Q⟩ := NetIn.push (n := N) HO.out HW.out cn cu2 cf2 hB hlo (below_two _ _ _) (pair_two _ ((N : Int) - 1 - (ib : Int)) ((N : Int) - 1 - (ia : Int)) hwa hwb _) (by simp) hown hgrow HK.out
          rw [← HD.out] at P
          clear hown hgrow hat hlt2 z1 z2 HO HW
          go_wp2
          go_roundw
          case rel => exact ⟨k + 1, by omega, by go_num, _, Lib.hid P, Lib.hid Q⟩
          case measure => first | (simp [intOf]; done) | (simp [intOf]; omega)
      · have hk' : k = rows.length := by omega
        subst hk'
        have HN' : Hid (NetIn w1.heap.size (w1.heap.size + 1) N (renL (fun a b => ((N : Int) - 1 - (b : Int), (N : Int) - 1 - (a : Int))) (pairsOf rows)) wr u) := by have := HN.out; rw [List.take_of_length_le (by rw [renL_length, HL.out]; exact Nat.le_refl _)] at this; exact this
        clear HN
        have HN := HN'
        clear HN'
        obtain ⟨hR, cn, cu, cf, hB, hlo⟩ := HN.out
        obtain ⟨d0, d1, f0, f1, _⟩ := rW.below HK.out.1 (by omega)
        obtain ⟨a3, l3, c3, hu⟩ := hR.shape
        subst hu
        have bwr : Below w.heap.size w wr := bwW.trans (HK.out.1.mono (by omega))
        obtain ⟨RR, BB⟩ := hR.res (R := w.heap.size + 1) (x := .int .i64 N) (y := .slice a3 l3 c3) (by omega) bwr (by omega)
        clear hR HN HK
        go_wp2
        exact bodyPost_ret (v := .tuple #[.agg #[.int .i64 N, .slice a3 l3 c3], .bool true]) (by simp [results, Try.results37, go_sem, d0, d1]) rfl ⟨_, rfl, RR, BB⟩
  · have ht := tf_no hN
    have hNP : ¬ (MirP n rows) := fun h => hN (And.left h)
    rw [nbN_no hNP, nbR_no hNP, tf_no hNP]
    clear hNP
    subst hv
    clear hN
    go_enter Try.func37, Try.ntmps37
    go_wp2_with fail
    refine (specNetworkOk _ _ rows _ (hk.out _ (((Below.refl _ _).alloc (Nat.le_refl _) _).alloc (by simp) _))).mono ?_; rintro e w1 ⟨rfl, b1⟩
    obtain ⟨d0, d1, f0, f1, _⟩ := (ResC.start (w.alloc (.cells #[.int .i64 n, .slice ao rows.length cap] 26)) 26).below b1 (by simp)
    rw [World.size_alloc] at d0 d1 f0 f1
    have bw : Below w.heap.size w w1 := (((Below.refl _ _).alloc (Nat.le_refl _) _).alloc (by simp) _).trans (b1.mono (by simp; omega))
    go_wp2
    exact bodyPost_ret (v := .tuple #[.agg #[.int .i64 0, .slice none 0 0], .bool false]) (by simp [results, Try.results37, go_sem, d0, d1]) rfl ⟨_, rfl, OwnSS.nil _ _ _ _ _, (bw.setCell (by simp) _).setCell (by simp) _⟩

def PlP (n : Int) (rows : List (List Int)) (at_ m : Int) : Prop := NetP n rows ∧ (0 ≤ at_ ∧ at_ + n ≤ m ∧ m ≤ 8)
def plL (rows : List (List Int)) (at_ : Int) : List (List Int) := renL (fun a b => ((a : Int) + at_, (b : Int) + at_)) (pairsOf rows)
theorem pl_le (n : Int) (rows : List (List Int)) (at_ m : Int) : sumLen (nbR (PlP n rows at_ m) (plL rows at_)) ≤ 120 := nbRen_le _ (fun h => h.1)

set_option maxHeartbeats 1600000 in
set_option maxRecDepth 100000 in
theorem specPlaceNetwork (n : Int) (v : Value) (rows : List (List Int)) (at_ m : Int) (w : World) (hn : (Lit.int .i64 n).wf = true) (h : IntSS w v rows) (hl : rows.length + sumLen rows ≤ 1048576) (h1 : (Lit.int .i64 at_).wf = true) (h2 : (Lit.int .i64 m).wf = true) :
    Calls Try.prog 32 #[.agg #[.int .i64 n, v], .int .i64 at_, .int .i64 m] w (GivesNB w (nbN (PlP n rows at_ m) m) (nbR (PlP n rows at_ m) (plL rows at_)) (tf (PlP n rows at_ m))) := by
  have hk : Hid (∀ W, Below w.heap.size w W → IntSS W v rows) := fun W hb => h.keep (Below.keeps hb)
  obtain ⟨ao, cap, hv, hcap, hmax, _⟩ := h
  unfold maxLen at hmax
  clear hn hl
  rcases Classical.em (NetP n rows) with hN | hN
  · have ht := tf_yes hN
    have h60 := hN.2.1
    have hN0 := hN
    obtain ⟨N, rfl, hr, hp⟩ := hN.pairs
    have HN := Lib.hid hN0
    have HP := Lib.hid hp
    have HR := Lib.hid hr
    have hN8 := hp.2.1
    have hpl : (pairsOf rows).length = rows.length := by rw [pairsOf, List.length_map]
    have HL := Lib.hid hpl
    subst hv
    clear hN hN0 hp hr hpl
    by_cases h1 : 0 ≤ at_ ∧ at_ ≤ 8
    · have hi1 : tf (InP 0 at_ 8) = true := tf_yes (by unfold InP; omega)
      have hq0 : IntKind.i64.wrap (at_ + (N : Int)) = at_ + N := IntWalk.i64_in _ ⟨by omega, by omega⟩
      by_cases h2 : at_ + N ≤ m ∧ m ≤ 8
      · have hi2 : tf (InP (at_ + N) m 8) = true := tf_yes (by unfold InP; omega)
        have hP : PlP N rows at_ m := ⟨HN.out, by omega⟩
        rw [nbN_yes hP, nbR_yes hP, tf_yes hP]
        clear hP
        clear HN
        unfold plL
        go_enter Try.func32, Try.ntmps32
        go_wp2_with fail
        refine (specNetworkOk _ _ rows _ (hk.out _ (((Below.refl _ _).alloc (Nat.le_refl _) _).alloc (by simp) _))).mono ?_; rintro e w1 ⟨rfl, b1⟩
        have r1 := (ResC.start (w.alloc (.cells #[.int .i64 N, .slice ao rows.length cap] 26)) 26).below b1 (by simp)
        rw [World.size_alloc] at r1
        have cx : w1.cell? ⟨w.heap.size, 0, none⟩ = some (.int .i64 N) := (b1.cell (by simp; omega)).trans (by simp [go_sem])
        have cy : w1.cell? ⟨w.heap.size, 1, none⟩ = some (.slice ao rows.length cap) := (b1.cell (by simp; omega)).trans (by simp [go_sem])
        have bw1 : Below w.heap.size w w1 := (((Below.refl _ _).alloc (Nat.le_refl _) _).alloc (by simp) _).trans (b1.mono (by simp; omega))
        have s1 : w.heap.size + 2 ≤ w1.heap.size := by have := b1.size; simpa using this
        have y1 : w.heap.size < w1.heap.size := by omega
        have y2 : w.heap.size + 1 < w1.heap.size := by omega
        go_wp2_with fail
        refine (specIn' at_ 0 8 w1).mono ?_; rintro e w2 ⟨rfl, b2⟩
        rw [hi1]
        have s2 := b2.size
        have cx2 := Below.keeps b2 _ _ cx
        have cy2 := Below.keeps b2 _ _ cy
        have bw2 := bw1.trans (b2.mono (by omega))
        have r2 := r1.below b2 (by omega)
        go_wp2_with fail
        refine (specIn' m (at_ + N) 8 w2).mono ?_; rintro e w3 ⟨rfl, b3⟩
        rw [hi2]
        have s3 := b3.size
        have cx3 := Below.keeps b3 _ _ cx2
        have cy3 := Below.keeps b3 _ _ cy2
        have bw3 := bw2.trans (b3.mono (by omega))
        have r3 := r2.below b3 (by omega)
        have y3 : w.heap.size < w3.heap.size := by omega
        have rW0 := r3
        have bW0 := bw3
        obtain ⟨W1, HW1⟩ : ∃ W, Hid (W = w3.alloc (.cells #[.int .i64 m, .slice none 0 0] 26)) := ⟨_, rfl⟩
        have bO : Below w3.heap.size w3 W1 := by rw [HW1.out]; exact (Below.refl _ _).alloc (Nat.le_refl _) _
        have hS : NetIn w3.heap.size (w3.heap.size + 1) m [] W1 (.slice none 0 0) := by rw [HW1.out]; exact NetIn.start _ _ _
        have bwW : Below w.heap.size w W1 := bW0.trans (bO.mono (by omega))
        have rW := rW0.below bO (by omega)
        have hI : IntSS w (.slice ao rows.length cap) (rowsOf (pairsOf rows)) := by rw [← HR.out]; exact hk.out w (Below.refl _ _)
        obtain ⟨ao', cap', hv', _, _, hnil, hcell⟩ := pairs_open hI
        simp only [Value.slice.injEq] at hv'
        obtain ⟨hv1, -, hv2⟩ := hv'
        subst hv1; subst hv2
        have HC := Lib.hid hcell; clear hcell hI
        have s2 : w3.heap.size + 1 ≤ W1.heap.size := by rw [HW1.out]; simp
        obtain ⟨i0, hi, hz0, hz1, hz2⟩ := info_parts infoInts
        go_wp2
        rw [← HW1.out]
        clear HW1
        go_loopw [34] (fun i wr => ∃ k : Nat, k ≤ rows.length ∧ i = .int .i64 k ∧ ∃ (u : Value), Hid (NetIn w3.heap.size (w3.heap.size + 1) m ((renL (fun a b => ((a : Int) + at_, (b : Int) + at_)) (pairsOf rows)).take k) wr u) ∧ Hid (Kept w3.heap.size (w3.heap.size + 1) W1 wr)) (fun i _ => rows.length - (intOf i).toNat)
        case atStart => exact ⟨0, Nat.zero_le _, rfl, _, Lib.hid hS, Lib.hid (Kept.refl _ _ _ (by omega))⟩
        case round =>
          obtain ⟨k, hk9, rfl, u, HN, HK⟩ := hrel
          have hb : Below w.heap.size w wr := bwW.trans (HK.out.1.mono (by omega))
          by_cases hlt : k < rows.length
          · have hlp : k < (pairsOf rows).length := by rw [HL.out]; exact hlt
            obtain ⟨b, q, x, po, pc, rfl, hu, g1, g2, d0, d1⟩ := HC.out k hlp
            have c1 := Below.keeps hb _ _ hu
            have c2 := Below.keeps hb _ _ d0
            have c3 := Below.keeps hb _ _ d1
            have hxw : x < w.heap.size := World.block_lt_of_cell? w _ d0
            have hbw : b < w.heap.size := World.block_lt_of_cell? w _ hu
            unfold maxLen at g2
            clear hu d0 d1
            have HD : Hid ((renL (fun a b => ((a : Int) + at_, (b : Int) + at_)) (pairsOf rows)).take (k + 1) = (renL (fun a b => ((a : Int) + at_, (b : Int) + at_)) (pairsOf rows)).take k ++ [[((fun a b => ((a : Int) + at_, (b : Int) + at_)) (pairsOf rows)[k].1 (pairsOf rows)[k].2).1, ((fun a b => ((a : Int) + at_, (b : Int) + at_)) (pairsOf rows)[k].1 (pairsOf rows)[k].2).2]]) := renL_next _ _ k hlp
            have hia := (HP.out.2.2.2 k hlp).1
            have hib := (HP.out.2.2.2 k hlp).2.1
            obtain ⟨⟨vs, hO, hR⟩, cn, cu2, cf2, hB, hlo⟩ := HN.out
            have HO := Lib.hid hO
            have HW := Lib.hid hR
            have HU : Hid (∀ g, g < w3.heap.size + 1 → some g ≠ u.ownBlock) := fun g hg e => by have := HO.out.lt e.symm; omega
            have hvl : vs.length ≤ 60 := by have := HW.out.1; rw [List.length_take, renL_length] at this; omega
            have hB2 : w3.heap.size < wr.heap.size := by omega
            have hB3 : w3.heap.size < wr.heap.size + 1 := by omega
            clear hO hR HN
            generalize (pairsOf rows)[k].1 = ia at *
            generalize (pairsOf rows)[k].2 = ib at *
            have q2 : IntKind.i64.wrap ((ia : Int) + at_) = (ia : Int) + at_ := IntWalk.i64_in _ ⟨by omega, by omega⟩
            have q3 : IntKind.i64.wrap ((ib : Int) + at_) = (ib : Int) + at_ := IntWalk.i64_in _ ⟨by omega, by omega⟩
            have hwa : In64 ((ia : Int) + at_) := WalkArith.wf_i64 (by omega)
            have hwb : In64 ((ib : Int) + at_) := WalkArith.wf_i64 (by omega)
            go_wp2
            rw [show Op.load 22 (Operand.tmp 38) = ldOp 22 (Operand.tmp 38) from rfl]
            go_region_held3 (fun w' => w'.cell? ⟨x, po, none⟩ = some (.int .i64 ia) ∧ w'.cell? ⟨x, po + 1, none⟩ = some (.int .i64 ib)) ((go_split_ands; refine ⟨?_, ?_⟩ <;> (first | assumption | exact cell_al (by assumption) | exact cell_st (by assumption) (by first | (simp; done) | (simp; omega)) | exact cell_gr hgrow (by assumption) (HU.out _ (by first | (simp; done) | (simp; omega))) | exact Below.keeps b2 _ _ (by assumption)))) ((refine step_append_lies _ (by rfl) (.tmp 39) (.tmp 51) 22 (by rfl) (w3.heap.size + 1) tInts i0 (.slice none 0 0) 1 24 Try.underlying22 hi hz0 hz1 hz2 rfl (by decide) u vs.length vs (by first | rfl | simp [Act.eval]) (by exact (HO.out.1.alloc _ |>.alloc _)) ⟨wr.heap.size + 1, 0, none⟩ 1 1 [.slice (some ⟨wr.heap.size, 0, none⟩) 2 2] (by simp [Act.eval]) (by rfl) (by exact news_two _ _ _ _) (by simp [Value.oneCell']) (by decide) (by unfold maxLen; omega) (by omega) (by simp; omega) (wr.heap.size + 2) (by simp) ?_; intro g cap2 w1 hown hgrow hat hlt2; have zz := after_new (below_two _ _ _) hgrow cu2 cf2 (HU.out _ (by first | (simp; done) | (simp; omega))); obtain ⟨z1, z2⟩ := zz))
            all_goals
              obtain ⟨P, Q⟩ := NetIn.push (n := m) HO.out HW.out cn cu2 cf2 hB hlo (below_two _ _ _) (pair_two _ ((ia : Int) + at_) ((ib : Int) + at_) hwa hwb _) (by simp) hown hgrow HK.out
              rw [← HD.out] at P
              clear hown hgrow hat hlt2 z1 z2 HO HW
              go_wp2
              go_roundw
              case rel => exact ⟨k + 1, by omega, by go_num, _, Lib.hid P, Lib.hid Q⟩
              case measure => first | (simp [intOf]; done) | (simp [intOf]; omega)
          · have hk' : k = rows.length := by omega
            subst hk'
            have HN' : Hid (NetIn w3.heap.size (w3.heap.size + 1) m (renL (fun a b => ((a : Int) + at_, (b : Int) + at_)) (pairsOf rows)) wr u) := by have := HN.out; rw [List.take_of_length_le (by rw [renL_length, HL.out]; exact Nat.le_refl _)] at this; exact this
            clear HN
            have HN := HN'
            clear HN'
            obtain ⟨hR, cn, cu, cf, hB, hlo⟩ := HN.out
            obtain ⟨d0, d1, f0, f1, _⟩ := rW.below HK.out.1 (by omega)
            obtain ⟨a3, l3, c3, hu⟩ := hR.shape
            subst hu
            have bwr : Below w.heap.size w wr := bwW.trans (HK.out.1.mono (by omega))
            obtain ⟨RR, BB⟩ := hR.res (R := w.heap.size + 1) (x := .int .i64 m) (y := .slice a3 l3 c3) (by omega) bwr (by omega)
            clear hR HN HK
            go_wp2
            exact bodyPost_ret (v := .tuple #[.agg #[.int .i64 m, .slice a3 l3 c3], .bool true]) (by simp [results, Try.results32, go_sem, d0, d1]) rfl ⟨_, rfl, RR, BB⟩
      · have hi2 : tf (InP (at_ + N) m 8) = false := tf_no (by unfold InP; omega)
        have hNP : ¬ PlP N rows at_ m := fun h => by have := h.2; omega
        rw [nbN_no hNP, nbR_no hNP, tf_no hNP]
        clear hNP HN
        go_enter Try.func32, Try.ntmps32
        go_wp2_with fail
        refine (specNetworkOk _ _ rows _ (hk.out _ (((Below.refl _ _).alloc (Nat.le_refl _) _).alloc (by simp) _))).mono ?_; rintro e w1 ⟨rfl, b1⟩
        have r1 := (ResC.start (w.alloc (.cells #[.int .i64 N, .slice ao rows.length cap] 26)) 26).below b1 (by simp)
        rw [World.size_alloc] at r1
        have cx : w1.cell? ⟨w.heap.size, 0, none⟩ = some (.int .i64 N) := (b1.cell (by simp; omega)).trans (by simp [go_sem])
        have cy : w1.cell? ⟨w.heap.size, 1, none⟩ = some (.slice ao rows.length cap) := (b1.cell (by simp; omega)).trans (by simp [go_sem])
        have bw1 : Below w.heap.size w w1 := (((Below.refl _ _).alloc (Nat.le_refl _) _).alloc (by simp) _).trans (b1.mono (by simp; omega))
        have s1 : w.heap.size + 2 ≤ w1.heap.size := by have := b1.size; simpa using this
        have y1 : w.heap.size < w1.heap.size := by omega
        have y2 : w.heap.size + 1 < w1.heap.size := by omega
        go_wp2_with fail
        refine (specIn' at_ 0 8 w1).mono ?_; rintro e w2 ⟨rfl, b2⟩
        rw [hi1]
        have s2 := b2.size
        have cx2 := Below.keeps b2 _ _ cx
        have cy2 := Below.keeps b2 _ _ cy
        have bw2 := bw1.trans (b2.mono (by omega))
        have r2 := r1.below b2 (by omega)
        go_wp2_with fail
        refine (specIn' m (at_ + N) 8 w2).mono ?_; rintro e w3 ⟨rfl, b3⟩
        rw [hi2]
        have s3 := b3.size
        have cx3 := Below.keeps b3 _ _ cx2
        have cy3 := Below.keeps b3 _ _ cy2
        have bw3 := bw2.trans (b3.mono (by omega))
        have r3 := r2.below b3 (by omega)
        have y3 : w.heap.size < w3.heap.size := by omega
        obtain ⟨d0, d1, f0, f1, _⟩ := r3
        go_wp2
        exact bodyPost_ret (v := .tuple #[.agg #[.int .i64 0, .slice none 0 0], .bool false]) (by simp [results, Try.results32, go_sem, d0, d1]) rfl ⟨_, rfl, OwnSS.nil _ _ _ _ _, (bw3.setCell (by simp) _).setCell (by simp) _⟩
    · have hi1 : tf (InP 0 at_ 8) = false := tf_no (by unfold InP; omega)
      have hNP : ¬ PlP N rows at_ m := fun h => by have := h.2; omega
      rw [nbN_no hNP, nbR_no hNP, tf_no hNP]
      clear hNP HN
      go_enter Try.func32, Try.ntmps32
      go_wp2_with fail
      refine (specNetworkOk _ _ rows _ (hk.out _ (((Below.refl _ _).alloc (Nat.le_refl _) _).alloc (by simp) _))).mono ?_; rintro e w1 ⟨rfl, b1⟩
      have r1 := (ResC.start (w.alloc (.cells #[.int .i64 N, .slice ao rows.length cap] 26)) 26).below b1 (by simp)
      rw [World.size_alloc] at r1
      have cx : w1.cell? ⟨w.heap.size, 0, none⟩ = some (.int .i64 N) := (b1.cell (by simp; omega)).trans (by simp [go_sem])
      have cy : w1.cell? ⟨w.heap.size, 1, none⟩ = some (.slice ao rows.length cap) := (b1.cell (by simp; omega)).trans (by simp [go_sem])
      have bw1 : Below w.heap.size w w1 := (((Below.refl _ _).alloc (Nat.le_refl _) _).alloc (by simp) _).trans (b1.mono (by simp; omega))
      have s1 : w.heap.size + 2 ≤ w1.heap.size := by have := b1.size; simpa using this
      have y1 : w.heap.size < w1.heap.size := by omega
      have y2 : w.heap.size + 1 < w1.heap.size := by omega
      go_wp2_with fail
      refine (specIn' at_ 0 8 w1).mono ?_; rintro e w2 ⟨rfl, b2⟩
      rw [hi1]
      have s2 := b2.size
      have cx2 := Below.keeps b2 _ _ cx
      have cy2 := Below.keeps b2 _ _ cy
      have bw2 := bw1.trans (b2.mono (by omega))
      have r2 := r1.below b2 (by omega)
      obtain ⟨d0, d1, f0, f1, _⟩ := r2
      go_wp2
      exact bodyPost_ret (v := .tuple #[.agg #[.int .i64 0, .slice none 0 0], .bool false]) (by simp [results, Try.results32, go_sem, d0, d1]) rfl ⟨_, rfl, OwnSS.nil _ _ _ _ _, (bw2.setCell (by simp) _).setCell (by simp) _⟩
  · have ht := tf_no hN
    have hNP : ¬ (PlP n rows at_ m) := fun h => hN (And.left h)
    rw [nbN_no hNP, nbR_no hNP, tf_no hNP]
    clear hNP
    subst hv
    clear hN
    go_enter Try.func32, Try.ntmps32
    go_wp2_with fail
    refine (specNetworkOk _ _ rows _ (hk.out _ (((Below.refl _ _).alloc (Nat.le_refl _) _).alloc (by simp) _))).mono ?_; rintro e w1 ⟨rfl, b1⟩
    obtain ⟨d0, d1, f0, f1, _⟩ := (ResC.start (w.alloc (.cells #[.int .i64 n, .slice ao rows.length cap] 26)) 26).below b1 (by simp)
    rw [World.size_alloc] at d0 d1 f0 f1
    have bw : Below w.heap.size w w1 := (((Below.refl _ _).alloc (Nat.le_refl _) _).alloc (by simp) _).trans (b1.mono (by simp; omega))
    go_wp2
    exact bodyPost_ret (v := .tuple #[.agg #[.int .i64 0, .slice none 0 0], .bool false]) (by simp [results, Try.results32, go_sem, d0, d1]) rfl ⟨_, rfl, OwnSS.nil _ _ _ _ _, (bw.setCell (by simp) _).setCell (by simp) _⟩

end Go.Proofs.Ytelilimkcboioaa
