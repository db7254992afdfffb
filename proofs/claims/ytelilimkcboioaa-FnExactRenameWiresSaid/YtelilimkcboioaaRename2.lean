/- Contracts: RenameWires, the program's. -/
import Derived.Test.YtelilimkcboioaaRename
namespace Go.Proofs.Ytelilimkcboioaa
open Go.RowKit
set_option linter.unusedVariables false

set_option maxHeartbeats 1600000 in
set_option maxRecDepth 100000 in
theorem renamedR (N : Nat) (M : Int) (v : Value) (ps : List (Nat × Nat)) (cb : Value) (fm : Nat → Int) (w : World) (h : IntSS w v (rowsOf ps)) (hp : PsOk N ps)
    (hf : ∀ W i, Below w.heap.size w W → i < N → Calls Try.prog 64 #[.int .i64 (i : Int), cb] W fun e w' => e = .returned (.int .i64 (fm i)) ∧ w' = W) (hfm : ∀ i, i < N → In64 (fm i)) :
    Calls Try.prog 60 #[.agg #[.int .i64 N, v], .int .i64 M, .func (.func 64) #[] #[cb]] w (GivesNet w M (renL (fun a b => (fm a, fm b)) ps)) := by
  obtain ⟨ao, cap, rfl, hcap, hmax, hnil, hcell⟩ := pairs_open h
  have HC := Lib.hid hcell; clear hcell h
  have HP := Lib.hid hp
  have HF := Lib.hid hf
  have HM := Lib.hid hfm
  unfold maxLen at hmax
  have hN8 := HP.out.2.1
  have h60 : ps.length ≤ 60 := HP.out.2.2.1
  clear hp hf hfm
  obtain ⟨i0, hi, hz0, hz1, hz2⟩ := info_parts infoInts
  go_enter Try.func60, Try.ntmps60
  go_wp2
  go_loopw [15] (fun i wr => ∃ k : Nat, k ≤ ps.length ∧ i = .int .i64 k ∧ ∃ (u : Value), Hid (NetIn (w.heap.size + 1 + 1) (w.heap.size + 3) M ((renL (fun a b => (fm a, fm b)) ps).take k) wr u) ∧ Hid (Kept (w.heap.size + 1 + 1) (w.heap.size + 3) (((w.alloc (.cells #[.int .i64 N, .slice ao ps.length cap] 26)).alloc (.cells #[.int .i64 0, .slice none 0 0] 26)).alloc (.cells #[.int .i64 M, .slice none 0 0] 26)) wr)) (fun i _ => ps.length - (intOf i).toNat)
  case atStart =>
    have hS := NetIn.start ((w.alloc (.cells #[.int .i64 N, .slice ao ps.length cap] 26)).alloc (.cells #[.int .i64 0, .slice none 0 0] 26)) M 26
    rw [World.size_alloc, World.size_alloc] at hS
    exact ⟨0, Nat.zero_le _, rfl, _, Lib.hid hS, Lib.hid (Kept.refl _ _ _ (by simp))⟩
  case round =>
    obtain ⟨k, hk, rfl, u, HN, HK⟩ := hrel
    have hb : Below w.heap.size w wr := ((((Below.refl _ w).alloc (Nat.le_refl _) _).alloc (by simp) _).alloc (by simp; omega) _).trans (HK.out.1.mono (by omega))
    by_cases hlt : k < ps.length
    · obtain ⟨b, q, x, po, pc, rfl, hu, g1, g2, d0, d1⟩ := HC.out k hlt
      have c1 := Below.keeps hb _ _ hu
      have c2 := Below.keeps hb _ _ d0
      have c3 := Below.keeps hb _ _ d1
      have hxw : x < w.heap.size := World.block_lt_of_cell? w _ d0
      have hbw : b < w.heap.size := World.block_lt_of_cell? w _ hu
      unfold maxLen at g2
      clear hu d0 d1
      have HD : Hid ((renL (fun a b => (fm a, fm b)) ps).take (k + 1) = (renL (fun a b => (fm a, fm b)) ps).take k ++ [[fm ps[k].1, fm ps[k].2]]) := renL_next _ _ k hlt
      have HA : Hid (ps[k].1 < N) := (HP.out.2.2.2 k hlt).1
      have HB : Hid (ps[k].2 < N) := (HP.out.2.2.2 k hlt).2.1
      obtain ⟨⟨vs, hO, hR⟩, cn, cu2, cf2, hB, hlo⟩ := HN.out
      have HO := Lib.hid hO
      have HW := Lib.hid hR
      have HU : Hid (∀ g, g < w.heap.size + 3 → some g ≠ u.ownBlock) := fun g hg e => by have := HO.out.lt e.symm; omega
      have hvl : vs.length ≤ 60 := by have := HW.out.1; rw [List.length_take, renL_length] at this; omega
      have hB2 : w.heap.size + 1 + 1 < wr.heap.size := by omega
      have hB3 : w.heap.size + 1 + 1 < wr.heap.size + 1 := by omega
      have hbd : Hid (Below w.heap.size w wr.drew) := hb.drew
      clear hO hR HN
      generalize ps[k].1 = ia at *
      generalize ps[k].2 = ib at *
      have F1 : Hid (Calls Try.prog 64 #[.int .i64 (ia : Int), cb] wr.drew fun e w' => e = .returned (.int .i64 (fm ia)) ∧ w' = wr.drew) := HF.out _ ia hbd.out HA.out
      have F2 : Hid (Calls Try.prog 64 #[.int .i64 (ib : Int), cb] wr.drew fun e w' => e = .returned (.int .i64 (fm ib)) ∧ w' = wr.drew) := HF.out _ ib hbd.out HB.out
      go_wp2
      rw [show Op.load 22 (Operand.tmp 19) = ldOp 22 (Operand.tmp 19) from rfl]
      go_region_held3 (fun w' => w'.cell? ⟨x, po, none⟩ = some (.int .i64 ia) ∧ w'.cell? ⟨x, po + 1, none⟩ = some (.int .i64 ib)) ((go_split_ands; refine ⟨?_, ?_⟩ <;> (first | assumption | exact cell_al (by assumption) | exact cell_st (by assumption) (by first | (simp; done) | (simp; omega)) | exact cell_gr hgrow (by assumption) (HU.out _ (by first | (simp; done) | (simp; omega)))))) ((first
        | (refine step_append_lies _ (by rfl) (.tmp 20) (.tmp 32) 22 (by rfl) (w.heap.size + 3) tInts i0 (.slice none 0 0) 1 24 Try.underlying22 hi hz0 hz1 hz2 rfl (by decide) u vs.length vs (by first | rfl | simp [Act.eval]) (by exact (HO.out.1.alloc _ |>.alloc _)) ⟨wr.heap.size + 1, 0, none⟩ 1 1 [.slice (some ⟨wr.heap.size, 0, none⟩) 2 2] (by simp [Act.eval]) (by rfl) (by exact news_two _ _ _ _) (by simp [Value.oneCell']) (by decide) (by unfold maxLen; omega) (by omega) (by simp; omega) (wr.heap.size + 2) (by simp) ?_; intro g cap2 w1 hown hgrow hat hlt2; have zz := after_new (below_two _ _ _) hgrow cu2 cf2 (HU.out _ (by first | (simp; done) | (simp; omega))); obtain ⟨z1, z2⟩ := zz)
        | (go_at_call 64; refine Calls.mono (by with_reducible exact F1.out) ?_; rintro e w9 ⟨rfl, rfl⟩)
        | (go_at_call 64; refine Calls.mono (by with_reducible exact F2.out) ?_; rintro e w9 ⟨rfl, rfl⟩)))
      all_goals
        obtain ⟨P, Q⟩ := NetIn.push (n := M) HO.out HW.out cn cu2 cf2 hB hlo (below_two _ _ _) (pair_two _ (fm ia) (fm ib) (HM.out _ HA.out) (HM.out _ HB.out) _) (by simp) hown hgrow HK.out
        rw [← HD.out] at P
        clear hown hgrow hat hlt2 z1 z2 HO HW
        go_wp2
        go_roundw
        case rel => exact ⟨k + 1, by omega, by go_num, _, Lib.hid P, Lib.hid Q⟩
        case measure => first | (simp [intOf]; done) | (simp [intOf]; omega)
    · have hk' : k = ps.length := by omega
      subst hk'
      obtain ⟨hR, cn, cu, cf, hB, hlo⟩ := HN.out
      rw [List.take_of_length_le (by rw [renL_length]; exact Nat.le_refl _)] at hR
      obtain ⟨d0, d1, f0, f1, _⟩ := ((ResC.start (w.alloc (.cells #[.int .i64 N, .slice ao ps.length cap] 26)) 26).below ((Below.refl (w.heap.size + 1 + 1) _).alloc (by simp) (.cells #[.int .i64 M, .slice none 0 0] 26)) (by simp)).below HK.out.1 (by simp)
      rw [World.size_alloc] at d0 d1 f0 f1
      obtain ⟨a3, l3, c3, hu⟩ := hR.shape
      subst hu
      obtain ⟨R, B⟩ := hR.res (R := w.heap.size + 1) (x := .int .i64 M) (y := .slice a3 l3 c3) (by omega) hb (by omega)
      clear hR HN HK hb
      go_wp2
      exact bodyPost_ret (v := .agg #[.int .i64 M, .slice a3 l3 c3]) (by simp [results, Try.results60, go_sem, d0, d1]) rfl ⟨_, rfl, R, B⟩

theorem renC (q bn qn capn : Nat) (xs : List Int) (i : Nat) (W : World) (hc : W.cell? ⟨q, 0, none⟩ = some (.slice (some ⟨bn, qn, none⟩) xs.length capn)) (hI : Ints W (.slice (some ⟨bn, qn, none⟩) xs.length capn) xs) (hx8 : xs.length ≤ 8) (hi : i < xs.length) :
    Calls Try.prog 64 #[.int .i64 (i : Int), .pointer (some ⟨q, 0, none⟩)] W fun e w' => e = .returned (.int .i64 (xs.getD i 0)) ∧ w' = W := by
  have hc2 := (ints_at hI i hi).1
  generalize xs.getD i 0 = z at *
  clear hI
  go_enter Try.func64, Try.ntmps64
  go_wp2
  go_ret
  exact ⟨rfl, rfl⟩
set_option maxHeartbeats 1600000 in
set_option maxRecDepth 100000 in
theorem implRenameWires (n : Int) (v : Value) (rows : List (List Int)) (u9 : Value) (xs : List Int) (w : World) (hn : (Lit.int .i64 n).wf = true) (h : IntSS w v rows) (hl : rows.length + sumLen rows ≤ 1048576) (hu9 : Ints w u9 xs) (hxl : xs.length ≤ 1048576) :
    Calls Try.prog 36 #[.agg #[.int .i64 n, v], u9] w (GivesNB w (nbN (RnP n rows xs) n) (nbR (RnP n rows xs) (rnL rows xs)) (tf (RnP n rows xs))) := by
  have hk : Hid (∀ W, Below w.heap.size w W → IntSS W v rows) := fun W hb => h.keep (Below.keeps hb)
  obtain ⟨ao, cap, hv, hcap, hmax, _⟩ := h
  unfold maxLen at hmax
  clear hn hl
  rcases Classical.em (NetP n rows) with hN | hN
  · have ht := tf_yes hN
    have h60 := hN.2.1
    have hN0 := hN
    obtain ⟨N, rfl, hr, hp⟩ := hN.pairs
    have HN := Lib.hid hN0
    have HP := Lib.hid hp
    have HR := Lib.hid hr
    have hN8 := hp.2.1
    have hpl : (pairsOf rows).length = rows.length := by rw [pairsOf, List.length_map]
    have HL := Lib.hid hpl
    subst hv
    clear hN hN0 hp hr hpl
    have HIN : Hid (∀ W, Below w.heap.size w W → Ints W u9 xs) := fun W hb => hu9.keep (Below.keeps hb)
    rcases Classical.em (PermP N xs) with hPm | hPm
    · have hP : RnP N rows xs := ⟨HN.out, by rw [Int.toNat_natCast]; exact hPm⟩
      rw [nbN_yes hP, nbR_yes hP, tf_yes hP]
      clear hP
      clear HN
      unfold rnL
      have hpm : tf (PermP N xs) = true := tf_yes hPm
      have hxN : xs.length = N := hPm.1
      clear hPm
      have HXN := Lib.hid hxN
      clear hxN
      obtain ⟨an, capn, hun, hcn1, hcn2, _, hcelln⟩ := id hu9
      have h1N := HP.out.1
      obtain ⟨bn, qn, _, han, _⟩ := hcelln 0 (by rw [HXN.out]; omega)
      subst han
      clear hcelln
      have HIN2 : Hid (∀ W, Below w.heap.size w W → Ints W (.slice (some ⟨bn, qn, none⟩) xs.length capn) xs) := by rw [← hun]; exact HIN
      subst hun
      unfold maxLen at hcn2
      have hxl8 : xs.length ≤ 8 := by rw [HXN.out]; exact hN8
      have HINx := HIN2
      go_enter Try.func36, Try.ntmps36
      go_wp2_with fail
      refine (implNetworkOk _ _ rows _ (hk.out _ ((((Below.refl _ _).alloc (Nat.le_refl _) _).alloc (by simp) _).alloc (by simp; omega) _))).mono ?_; rintro e w1 ⟨rfl, b1⟩
      have r1 := (ResC.start ((w.alloc (.cells #[.int .i64 N, .slice ao rows.length cap] 26)).alloc (.cells #[.slice (some ⟨bn, qn, none⟩) xs.length capn] 38)) 26).below b1 (by simp)
      rw [World.size_alloc, World.size_alloc] at r1
      have cx : w1.cell? ⟨w.heap.size, 0, none⟩ = some (.int .i64 N) := (b1.cell (by simp; omega)).trans (by simp [go_sem])
      have cy : w1.cell? ⟨w.heap.size, 1, none⟩ = some (.slice ao rows.length cap) := (b1.cell (by simp; omega)).trans (by simp [go_sem])
      have bw1 : Below w.heap.size w w1 := ((((Below.refl _ _).alloc (Nat.le_refl _) _).alloc (by simp) _).alloc (by simp; omega) _).trans (b1.mono (by simp; omega))
      have s1 : w.heap.size + 3 ≤ w1.heap.size := by have := b1.size; simpa using this
      have y1 : w.heap.size < w1.heap.size := by omega
      have y2 : w.heap.size + 1 < w1.heap.size := by omega
      have ca : w1.cell? ⟨w.heap.size + 1, 0, none⟩ = some (.slice (some ⟨bn, qn, none⟩) xs.length capn) := (b1.cell (by simp)).trans (by simp [go_sem])
      go_wp2_with fail
      refine (isOrder N _ xs w1 (HINx.out _ bw1) ⟨HP.out.1, hN8⟩ hxl).mono ?_; rintro e w2 ⟨rfl, b2⟩
      rw [hpm]
      have s2 := b2.size
      have cx2 := Below.keeps b2 _ _ cx
      have cy2 := Below.keeps b2 _ _ cy
      have ca2 := Below.keeps b2 _ _ ca
      have bw2 := bw1.trans (b2.mono (by omega))
      have r2 := r1.below b2 (by omega)
      have hI2 : IntSS w2 (.slice ao rows.length cap) (rowsOf (pairsOf rows)) := by rw [← HR.out]; exact hk.out _ bw2
      go_wp2_with fail
      refine (renamedR N N _ (pairsOf rows) (.pointer (some ⟨w.heap.size + 1, 0, none⟩)) (fun i => xs.getD i 0) w2 hI2 HP.out (fun W i hW hi => renC _ bn qn capn xs i W (Below.keeps hW _ _ ca2) (HIN2.out _ (bw2.trans (hW.mono (by omega)))) hxl8 (by rw [HXN.out]; exact hi)) (fun i hi => (ints_at (HIN2.out _ bw2) i (by rw [HXN.out]; exact hi)).2)).mono ?_; rintro e w3 ⟨u3, rfl, R3, b3⟩
      obtain ⟨a3, l3, c3, hu3⟩ := R3.shape
      subst hu3
      obtain ⟨d0, d1, f0, f1, _⟩ := r2.below b3 (by omega)
      have bw3 := bw2.trans (b3.mono (by omega))
      obtain ⟨RR, BB⟩ := R3.res (R := w.heap.size + 1 + 1) (x := .int .i64 N) (y := .slice a3 l3 c3) (by omega) bw3 (by omega)
      clear R3
      go_wp2
      exact bodyPost_ret (v := .tuple #[.agg #[.int .i64 N, .slice a3 l3 c3], .bool true]) (by simp [results, Try.results36, go_sem, d0, d1]) rfl ⟨_, rfl, RR, BB⟩
    · have hNP : ¬ RnP N rows xs := fun h => hPm (by have := h.2; rwa [Int.toNat_natCast] at this)
      rw [nbN_no hNP, nbR_no hNP, tf_no hNP]
      clear hNP HN
      have hpm : tf (PermP N xs) = false := tf_no hPm
      clear hPm
      obtain ⟨an, capn, hun, _⟩ := id hu9
      have HINx : Hid (∀ W, Below w.heap.size w W → Ints W (.slice an xs.length capn) xs) := by rw [← hun]; exact HIN
      subst hun
      go_enter Try.func36, Try.ntmps36
      go_wp2_with fail
      refine (implNetworkOk _ _ rows _ (hk.out _ ((((Below.refl _ _).alloc (Nat.le_refl _) _).alloc (by simp) _).alloc (by simp; omega) _))).mono ?_; rintro e w1 ⟨rfl, b1⟩
      have r1 := (ResC.start ((w.alloc (.cells #[.int .i64 N, .slice ao rows.length cap] 26)).alloc (.cells #[.slice an xs.length capn] 38)) 26).below b1 (by simp)
      rw [World.size_alloc, World.size_alloc] at r1
      have cx : w1.cell? ⟨w.heap.size, 0, none⟩ = some (.int .i64 N) := (b1.cell (by simp; omega)).trans (by simp [go_sem])
      have cy : w1.cell? ⟨w.heap.size, 1, none⟩ = some (.slice ao rows.length cap) := (b1.cell (by simp; omega)).trans (by simp [go_sem])
      have bw1 : Below w.heap.size w w1 := ((((Below.refl _ _).alloc (Nat.le_refl _) _).alloc (by simp) _).alloc (by simp; omega) _).trans (b1.mono (by simp; omega))
      have s1 : w.heap.size + 3 ≤ w1.heap.size := by have := b1.size; simpa using this
      have y1 : w.heap.size < w1.heap.size := by omega
      have y2 : w.heap.size + 1 < w1.heap.size := by omega
      have ca : w1.cell? ⟨w.heap.size + 1, 0, none⟩ = some (.slice an xs.length capn) := (b1.cell (by simp)).trans (by simp [go_sem])
      go_wp2_with fail
      refine (isOrder N _ xs w1 (HINx.out _ bw1) ⟨HP.out.1, hN8⟩ hxl).mono ?_; rintro e w2 ⟨rfl, b2⟩
      rw [hpm]
      have s2 := b2.size
      have cx2 := Below.keeps b2 _ _ cx
      have cy2 := Below.keeps b2 _ _ cy
      have ca2 := Below.keeps b2 _ _ ca
      have bw2 := bw1.trans (b2.mono (by omega))
      have r2 := r1.below b2 (by omega)
      obtain ⟨d0, d1, f0, f1, _⟩ := r2
      go_wp2
      exact bodyPost_ret (v := .tuple #[.agg #[.int .i64 0, .slice none 0 0], .bool false]) (by simp [results, Try.results36, go_sem, d0, d1]) rfl ⟨_, rfl, OwnSS.nil _ _ _ _ _, (bw2.setCell (by first | (simp; done) | (simp; omega)) _).setCell (by first | (simp; done) | (simp; omega)) _⟩
  · have ht := tf_no hN
    have hNP : ¬ (RnP n rows xs) := fun h => hN (And.left h)
    rw [nbN_no hNP, nbR_no hNP, tf_no hNP]
    clear hNP
    subst hv
    clear hN
    obtain ⟨an, capn, hun, _⟩ := id hu9
    subst hun
    go_enter Try.func36, Try.ntmps36
    go_wp2_with fail
    refine (implNetworkOk _ _ rows _ (hk.out _ ((((Below.refl _ _).alloc (Nat.le_refl _) _).alloc (by simp) _).alloc (by simp; omega) _))).mono ?_; rintro e w1 ⟨rfl, b1⟩
    have r1 := (ResC.start ((w.alloc (.cells #[.int .i64 n, .slice ao rows.length cap] 26)).alloc (.cells #[.slice an xs.length capn] 38)) 26).below b1 (by simp)
    rw [World.size_alloc, World.size_alloc] at r1
    have cx : w1.cell? ⟨w.heap.size, 0, none⟩ = some (.int .i64 n) := (b1.cell (by simp; omega)).trans (by simp [go_sem])
    have cy : w1.cell? ⟨w.heap.size, 1, none⟩ = some (.slice ao rows.length cap) := (b1.cell (by simp; omega)).trans (by simp [go_sem])
    have bw1 : Below w.heap.size w w1 := ((((Below.refl _ _).alloc (Nat.le_refl _) _).alloc (by simp) _).alloc (by simp; omega) _).trans (b1.mono (by simp; omega))
    have s1 : w.heap.size + 3 ≤ w1.heap.size := by have := b1.size; simpa using this
    have y1 : w.heap.size < w1.heap.size := by omega
    have y2 : w.heap.size + 1 < w1.heap.size := by omega
    have ca : w1.cell? ⟨w.heap.size + 1, 0, none⟩ = some (.slice an xs.length capn) := (b1.cell (by simp)).trans (by simp [go_sem])
    obtain ⟨d0, d1, f0, f1, _⟩ := r1
    go_wp2
    exact bodyPost_ret (v := .tuple #[.agg #[.int .i64 0, .slice none 0 0], .bool false]) (by simp [results, Try.results36, go_sem, d0, d1]) rfl ⟨_, rfl, OwnSS.nil _ _ _ _ _, (bw1.setCell (by first | (simp; done) | (simp; omega)) _).setCell (by first | (simp; done) | (simp; omega)) _⟩

end Go.Proofs.Ytelilimkcboioaa
