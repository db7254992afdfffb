/- Contracts: RenameWires, the reference's. -/
import Derived.Test.YtelilimkcboioaaRen
import Derived.Test.YtelilimkcboioaaPerm
namespace Go.Proofs.Ytelilimkcboioaa
open Go.RowKit
set_option linter.unusedVariables false

def RnP (n : Int) (rows : List (List Int)) (xs : List Int) : Prop := NetP n rows ∧ PermP n.toNat xs
def rnL (rows : List (List Int)) (xs : List Int) : List (List Int) := renL (fun a b => (xs.getD a 0, xs.getD b 0)) (pairsOf rows)
theorem rn_le (n : Int) (rows : List (List Int)) (xs : List Int) : sumLen (nbR (RnP n rows xs) (rnL rows xs)) ≤ 120 := nbRen_le _ (fun h => h.1)
theorem ints_at {w : World} {b q cap : Nat} {xs : List Int} (h : Ints w (.slice (some ⟨b, q, none⟩) xs.length cap) xs) (i : Nat) (hi : i < xs.length) : w.cell? ⟨b, q + i, none⟩ = some (.int .i64 (xs.getD i 0)) ∧ In64 (xs.getD i 0) := by
  obtain ⟨ao, c, hv, _, _, _, hcell⟩ := h
  simp only [Value.slice.injEq] at hv
  obtain ⟨hv1, -, -⟩ := hv
  subst hv1
  obtain ⟨b', q', u, e, hu, rfl, hw⟩ := hcell i hi
  cases e
  rw [List.getD_eq_getElem?_getD, List.getElem?_eq_getElem hi]
  exact ⟨hu, hw⟩

set_option maxHeartbeats 6000000 in
set_option maxRecDepth 100000 in
theorem specRenameWires (n : Int) (v : Value) (rows : List (List Int)) (u9 : Value) (xs : List Int) (w : World) (hn : (Lit.int .i64 n).wf = true) (h : IntSS w v rows) (hl : rows.length + sumLen rows ≤ 1048576) (hu9 : Ints w u9 xs) (hxl : xs.length ≤ 1048576) :
    Calls Try.prog 34 #[.agg #[.int .i64 n, v], u9] w (GivesNB w (nbN (RnP n rows xs) n) (nbR (RnP n rows xs) (rnL rows xs)) (tf (RnP n rows xs))) := by
  have hk : Hid (∀ W, Below w.heap.size w W → IntSS W v rows) := fun W hb => h.keep (Below.keeps hb)
  obtain ⟨ao, cap, hv, hcap, hmax, _⟩ := h
  unfold maxLen at hmax
  clear hn hl
  rcases Classical.em (NetP n rows) with hN | hN
  · have ht := tf_yes hN
    have h60 := hN.2.1
    have hN0 := hN
    obtain ⟨N, rfl, hr, hp⟩ := hN.pairs
    have HN := Lib.hid hN0
    have HP := Lib.hid hp
    have HR := Lib.hid hr
    have hN8 := hp.2.1
    have hpl : (pairsOf rows).length = rows.length := by rw [pairsOf, List.length_map]
    have HL := Lib.hid hpl
    subst hv
    clear hN hN0 hp hr hpl
    have HIN : Hid (∀ W, Below w.heap.size w W → Ints W u9 xs) := fun W hb => hu9.keep (Below.keeps hb)
    rcases Classical.em (PermP N xs) with hPm | hPm
    · have hP : RnP N rows xs := ⟨HN.out, by rw [Int.toNat_natCast]; exact hPm⟩
      rw [nbN_yes hP, nbR_yes hP, tf_yes hP]
      clear hP
      clear HN
      unfold rnL
      have hpm : tf (PermP N xs) = true := tf_yes hPm
      have hxN : xs.length = N := hPm.1
      clear hPm
      have HXN := Lib.hid hxN
      clear hxN
      obtain ⟨an, capn, hun, hcn1, hcn2, _, hcelln⟩ := id hu9
      have h1N := HP.out.1
      obtain ⟨bn, qn, _, han, _⟩ := hcelln 0 (by rw [HXN.out]; omega)
      subst han
      clear hcelln
      have HIN2 : Hid (∀ W, Below w.heap.size w W → Ints W (.slice (some ⟨bn, qn, none⟩) xs.length capn) xs) := by rw [← hun]; exact HIN
      subst hun
      unfold maxLen at hcn2
      have hxl8 : xs.length ≤ 8 := by rw [HXN.out]; exact hN8
      go_enter Try.func34, Try.ntmps34
      go_wp2_with fail
      refine (specNetworkOk _ _ rows _ (hk.out _ (((Below.refl _ _).alloc (Nat.le_refl _) _).alloc (by simp) _))).mono ?_; rintro e w1 ⟨rfl, b1⟩
      have r1 := (ResC.start (w.alloc (.cells #[.int .i64 N, .slice ao rows.length cap] 26)) 26).below b1 (by simp)
      rw [World.size_alloc] at r1
      have cx : w1.cell? ⟨w.heap.size, 0, none⟩ = some (.int .i64 N) := (b1.cell (by simp; omega)).trans (by simp [go_sem])
      have cy : w1.cell? ⟨w.heap.size, 1, none⟩ = some (.slice ao rows.length cap) := (b1.cell (by simp; omega)).trans (by simp [go_sem])
      have bw1 : Below w.heap.size w w1 := (((Below.refl _ _).alloc (Nat.le_refl _) _).alloc (by simp) _).trans (b1.mono (by simp; omega))
      have s1 : w.heap.size + 2 ≤ w1.heap.size := by have := b1.size; simpa using this
      have y1 : w.heap.size < w1.heap.size := by omega
      have y2 : w.heap.size + 1 < w1.heap.size := by omega
      go_wp2_with fail
      refine (l02Perm N _ xs w1 (HIN2.out _ bw1) ⟨HP.out.1, hN8⟩ hxl).mono ?_; rintro e w2 ⟨rfl, b2⟩
      rw [hpm]
      have s2 := b2.size
      have cx2 := Below.keeps b2 _ _ cx
      have cy2 := Below.keeps b2 _ _ cy
      have bw2 := bw1.trans (b2.mono (by omega))
      have r2 := r1.below b2 (by omega)
      have y3 : w.heap.size < w2.heap.size := by omega
      have rW0 := r2
      have bW0 := bw2
      obtain ⟨W1, HW1⟩ : ∃ W, Hid (W = w2.alloc (.cells #[.int .i64 N, .slice none 0 0] 26)) := ⟨_, rfl⟩
      have bO : Below w2.heap.size w2 W1 := by rw [HW1.out]; exact (Below.refl _ _).alloc (Nat.le_refl _) _
      have hS : NetIn w2.heap.size (w2.heap.size + 1) N [] W1 (.slice none 0 0) := by rw [HW1.out]; exact NetIn.start _ _ _
      have bwW : Below w.heap.size w W1 := bW0.trans (bO.mono (by omega))
      have rW := rW0.below bO (by omega)
      have hI : IntSS w (.slice ao rows.length cap) (rowsOf (pairsOf rows)) := by rw [← HR.out]; exact hk.out w (Below.refl _ _)
      obtain ⟨ao', cap', hv', _, _, hnil, hcell⟩ := pairs_open hI
      simp only [Value.slice.injEq] at hv'
      obtain ⟨hv1, -, hv2⟩ := hv'
      subst hv1; subst hv2
      have HC := Lib.hid hcell; clear hcell hI
      have s2 : w2.heap.size + 1 ≤ W1.heap.size := by rw [HW1.out]; simp
      obtain ⟨i0, hi, hz0, hz1, hz2⟩ := info_parts infoInts
      go_wp2
      rw [← HW1.out]
      clear HW1
      go_loopw [26] (fun i wr => ∃ k : Nat, k ≤ rows.length ∧ i = .int .i64 k ∧ ∃ (u : Value), Hid (NetIn w2.heap.size (w2.heap.size + 1) N ((renL (fun a b => (xs.getD a 0, xs.getD b 0)) (pairsOf rows)).take k) wr u) ∧ Hid (Kept w2.heap.size (w2.heap.size + 1) W1 wr)) (fun i _ => rows.length - (intOf i).toNat)
      case atStart => exact ⟨0, Nat.zero_le _, rfl, _, Lib.hid hS, Lib.hid (Kept.refl _ _ _ (by omega))⟩
      case round =>
        obtain ⟨k, hk9, rfl, u, HN, HK⟩ := hrel
        have hb : Below w.heap.size w wr := bwW.trans (HK.out.1.mono (by omega))
        by_cases hlt : k < rows.length
        · have hlp : k < (pairsOf rows).length := by rw [HL.out]; exact hlt
          obtain ⟨b, q, x, po, pc, rfl, hu, g1, g2, d0, d1⟩ := HC.out k hlp
          have c1 := Below.keeps hb _ _ hu
          have c2 := Below.keeps hb _ _ d0
          have c3 := Below.keeps hb _ _ d1
          have hxw : x < w.heap.size := World.block_lt_of_cell? w _ d0
          have hbw : b < w.heap.size := World.block_lt_of_cell? w _ hu
          unfold maxLen at g2
          clear hu d0 d1
          have HD : Hid ((renL (fun a b => (xs.getD a 0, xs.getD b 0)) (pairsOf rows)).take (k + 1) = (renL (fun a b => (xs.getD a 0, xs.getD b 0)) (pairsOf rows)).take k ++ [[((fun a b => (xs.getD a 0, xs.getD b 0)) (pairsOf rows)[k].1 (pairsOf rows)[k].2).1, ((fun a b => (xs.getD a 0, xs.getD b 0)) (pairsOf rows)[k].1 (pairsOf rows)[k].2).2]]) := renL_next _ _ k hlp
          have hia := (HP.out.2.2.2 k hlp).1
          have hib := (HP.out.2.2.2 k hlp).2.1
          obtain ⟨⟨vs, hO, hR⟩, cn, cu2, cf2, hB, hlo⟩ := HN.out
          have HO := Lib.hid hO
          have HW := Lib.hid hR
          have HU : Hid (∀ g, g < w2.heap.size + 1 → some g ≠ u.ownBlock) := fun g hg e => by have := HO.out.lt e.symm; omega
          have hvl : vs.length ≤ 60 := by have := HW.out.1; rw [List.length_take, renL_length] at this; omega
          have hB2 : w2.heap.size < wr.heap.size := by omega
          have hB3 : w2.heap.size < wr.heap.size + 1 := by omega
          clear hO hR HN
          generalize (pairsOf rows)[k].1 = ia at *
          generalize (pairsOf rows)[k].2 = ib at *
          have hiax : ia < xs.length := by rw [HXN.out]; exact hia
          have hibx : ib < xs.length := by rw [HXN.out]; exact hib
          obtain ⟨e1, hwa⟩ := ints_at (HIN2.out _ hb) ia hiax
          obtain ⟨e2, hwb⟩ := ints_at (HIN2.out _ hb) ib hibx
          have hbn : bn < w.heap.size := World.block_lt_of_cell? w _ (ints_at (HIN2.out w (Below.refl _ _)) ia hiax).1
          have HD : Hid ((renL (fun a b => (xs.getD a 0, xs.getD b 0)) (pairsOf rows)).take (k + 1) = (renL (fun a b => (xs.getD a 0, xs.getD b 0)) (pairsOf rows)).take k ++ [[xs.getD ia 0, xs.getD ib 0]]) := HD
          generalize xs.getD ia 0 = za at *
          generalize xs.getD ib 0 = zb at *
          go_wp2
          rw [show Op.load 22 (Operand.tmp 30) = ldOp 22 (Operand.tmp 30) from rfl]
          go_region_held3 (fun w' => w'.cell? ⟨bn, qn + ia, none⟩ = some (.int .i64 za) ∧ w'.cell? ⟨bn, qn + ib, none⟩ = some (.int .i64 zb) ∧ w'.cell? ⟨x, po, none⟩ = some (.int .i64 ia) ∧ w'.cell? ⟨x, po + 1, none⟩ = some (.int .i64 ib)) ((go_split_ands; refine ⟨?_, ?_, ?_, ?_⟩ <;> (first | assumption | exact cell_al (by assumption) | exact cell_st (by assumption) (by first | (simp; done) | (simp; omega)) | exact cell_gr hgrow (by assumption) (HU.out _ (by first | (simp; done) | (simp; omega))) | exact Below.keeps b2 _ _ (by assumption)))) ((refine step_append_lies _ (by rfl) (.tmp 31) (.tmp 45) 22 (by rfl) (w2.heap.size + 1) tInts i0 (.slice none 0 0) 1 24 Try.underlying22 hi hz0 hz1 hz2 rfl (by decide) u vs.length vs (by first | rfl | simp [Act.eval]) (by exact (HO.out.1.alloc _ |>.alloc _)) ⟨wr.heap.size + 1, 0, none⟩ 1 1 [.slice (some ⟨wr.heap.size, 0, none⟩) 2 2] (by simp [Act.eval]) (by rfl) (by exact news_two _ _ _ _) (by simp [Value.oneCell']) (by decide) (by unfold maxLen; omega) (by omega) (by simp; omega) (wr.heap.size + 2) (by simp) ?_; intro g cap2 w1 hown hgrow hat hlt2; have zz := after_new (below_two _ _ _) hgrow cu2 cf2 (HU.out _ (by first | (simp; done) | (simp; omega))); obtain ⟨z1, z2⟩ := zz))
          all_goals
            obtain ⟨P, Q⟩ := NetIn.push (n := N) HO.out HW.out cn cu2 cf2 hB hlo (below_two _ _ _) (pair_two _ (za) (zb) hwa hwb _) (by simp) hown hgrow HK.out
            rw [← HD.out] at P
            clear hown hgrow hat hlt2 z1 z2 HO HW
            go_wp2
            go_roundw
            case rel => exact ⟨k + 1, by omega, by go_num, _, Lib.hid P, Lib.hid Q⟩
            case measure => first | (simp [intOf]; done) | (simp [intOf]; omega)
        · have hk' : k = rows.length := by omega
          subst hk'
          have HN' : Hid (NetIn w2.heap.size (w2.heap.size + 1) N (renL (fun a b => (xs.getD a 0, xs.getD b 0)) (pairsOf rows)) wr u) := by have := HN.out; rw [List.take_of_length_le (by rw [renL_length, HL.out]; exact Nat.le_refl _)] at this; exact this
          clear HN
          have HN := HN'
          clear HN'
          obtain ⟨hR, cn, cu, cf, hB, hlo⟩ := HN.out
          obtain ⟨d0, d1, f0, f1, _⟩ := rW.below HK.out.1 (by omega)
          obtain ⟨a3, l3, c3, hu⟩ := hR.shape
          subst hu
          have bwr : Below w.heap.size w wr := bwW.trans (HK.out.1.mono (by omega))
          obtain ⟨RR, BB⟩ := hR.res (R := w.heap.size + 1) (x := .int .i64 N) (y := .slice a3 l3 c3) (by omega) bwr (by omega)
          clear hR HN HK
          go_wp2
          exact bodyPost_ret (v := .tuple #[.agg #[.int .i64 N, .slice a3 l3 c3], .bool true]) (by simp [results, Try.results34, go_sem, d0, d1]) rfl ⟨_, rfl, RR, BB⟩
    · have hNP : ¬ RnP N rows xs := fun h => hPm (by have := h.2; rwa [Int.toNat_natCast] at this)
      rw [nbN_no hNP, nbR_no hNP, tf_no hNP]
      clear hNP HN
      have hpm : tf (PermP N xs) = false := tf_no hPm
      clear hPm
      obtain ⟨an, capn, hun, _⟩ := id hu9
      have HINx : Hid (∀ W, Below w.heap.size w W → Ints W (.slice an xs.length capn) xs) := by rw [← hun]; exact HIN
      subst hun
      go_enter Try.func34, Try.ntmps34
      go_wp2_with fail
      refine (specNetworkOk _ _ rows _ (hk.out _ (((Below.refl _ _).alloc (Nat.le_refl _) _).alloc (by simp) _))).mono ?_; rintro e w1 ⟨rfl, b1⟩
      have r1 := (ResC.start (w.alloc (.cells #[.int .i64 N, .slice ao rows.length cap] 26)) 26).below b1 (by simp)
      rw [World.size_alloc] at r1
      have cx : w1.cell? ⟨w.heap.size, 0, none⟩ = some (.int .i64 N) := (b1.cell (by simp; omega)).trans (by simp [go_sem])
      have cy : w1.cell? ⟨w.heap.size, 1, none⟩ = some (.slice ao rows.length cap) := (b1.cell (by simp; omega)).trans (by simp [go_sem])
      have bw1 : Below w.heap.size w w1 := (((Below.refl _ _).alloc (Nat.le_refl _) _).alloc (by simp) _).trans (b1.mono (by simp; omega))
      have s1 : w.heap.size + 2 ≤ w1.heap.size := by have := b1.size; simpa using this
      have y1 : w.heap.size < w1.heap.size := by omega
      have y2 : w.heap.size + 1 < w1.heap.size := by omega
      go_wp2_with fail
      refine (l02Perm N _ xs w1 (HINx.out _ bw1) ⟨HP.out.1, hN8⟩ hxl).mono ?_; rintro e w2 ⟨rfl, b2⟩
      rw [hpm]
      have s2 := b2.size
      have cx2 := Below.keeps b2 _ _ cx
      have cy2 := Below.keeps b2 _ _ cy
      have bw2 := bw1.trans (b2.mono (by omega))
      have r2 := r1.below b2 (by omega)
      have y3 : w.heap.size < w2.heap.size := by omega
      obtain ⟨d0, d1, f0, f1, _⟩ := r2
      go_wp2
      exact bodyPost_ret (v := .tuple #[.agg #[.int .i64 0, .slice none 0 0], .bool false]) (by simp [results, Try.results34, go_sem, d0, d1]) rfl ⟨_, rfl, OwnSS.nil _ _ _ _ _, (bw2.setCell (by first | (simp; done) | (simp; omega)) _).setCell (by first | (simp; done) | (simp; omega)) _⟩
  · have ht := tf_no hN
    have hNP : ¬ (RnP n rows xs) := fun h => hN (And.left h)
    rw [nbN_no hNP, nbR_no hNP, tf_no hNP]
    clear hNP
    subst hv
    clear hN
    go_enter Try.func34, Try.ntmps34
    go_wp2_with fail
    refine (specNetworkOk _ _ rows _ (hk.out _ (((Below.refl _ _).alloc (Nat.le_refl _) _).alloc (by simp) _))).mono ?_; rintro e w1 ⟨rfl, b1⟩
    obtain ⟨d0, d1, f0, f1, _⟩ := (ResC.start (w.alloc (.cells #[.int .i64 n, .slice ao rows.length cap] 26)) 26).below b1 (by simp)
    rw [World.size_alloc] at d0 d1 f0 f1
    have bw : Below w.heap.size w w1 := (((Below.refl _ _).alloc (Nat.le_refl _) _).alloc (by simp) _).trans (b1.mono (by simp; omega))
    go_wp2
    exact bodyPost_ret (v := .tuple #[.agg #[.int .i64 0, .slice none 0 0], .bool false]) (by simp [results, Try.results34, go_sem, d0, d1]) rfl ⟨_, rfl, OwnSS.nil _ _ _ _ _, (bw.setCell (by simp) _).setCell (by simp) _⟩

end Go.Proofs.Ytelilimkcboioaa
