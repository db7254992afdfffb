/- Contract: CutWire, the program's. -/
import Derived.Test.YtboimhjmkcdgdaaCutM
import Derived.BigRegion
import Derived.Deep.Cut
import Derived.RegionTactic
namespace Go.Proofs.Ytboimhjmkcdgdaa
open Go.RowKit
set_option linter.unusedVariables false

set_option maxHeartbeats 8000000 in
set_option maxRecDepth 100000 in
theorem implCutWire (n : Int) (v : Value) (rows : List (List Int)) (a : Int) (bm : Bool) (w : World) (hwn : (Lit.int .i64 n).wf = true) (h : IntSS w v rows) (hl : rows.length + sumLen rows ≤ 1048576) (ha : (Lit.int .i64 a).wf = true) :
    Calls Try.prog 8 #[.agg #[.int .i64 n, v], .int .i64 a, .bool bm] w (GivesNB w (nbN (CutP n rows a) (n - 1)) (nbR (CutP n rows a) (cutR n rows a bm)) (tf (CutP n rows a))) := by
  have hk : Hid (∀ W, Below w.heap.size w W → IntSS W v rows) := fun W hb => h.keep (Below.keeps hb)
  obtain ⟨ao, cap, hv, hcap, hmax, _⟩ := h
  unfold maxLen at hmax
  subst hv
  rcases Classical.em (StdP n rows) with hS | hS
  · have hts := tf_yes hS
    have h60 := hS.1.2.1
    have hS0 := Lib.hid hS
    by_cases h1 : n = 1
    · subst h1
      have hNP : ¬ CutP 1 rows a := fun h => h.2.1 rfl
      rw [nbN_no hNP, nbR_no hNP, tf_no hNP]
      clear hNP hS hS0
      go_enter Try.func8, Try.ntmps8
      go_wp2_with fail
      refine (implIsStandard _ _ rows _ hwn (hk.out _ (((Below.refl _ _).alloc (Nat.le_refl _) _).alloc (by simp) _)) hl).mono ?_; rintro e w1 ⟨rfl, b1⟩
      rw [hts]
      have r1 := (ResC.start (w.alloc (.cells #[.int .i64 1, .slice ao rows.length cap] 26)) 26).below b1 (by simp)
      rw [World.size_alloc] at r1
      have cx : w1.cell? ⟨w.heap.size, 0, none⟩ = some (.int .i64 1) := (b1.cell (by simp; omega)).trans (by simp [go_sem])
      have cy : w1.cell? ⟨w.heap.size, 1, none⟩ = some (.slice ao rows.length cap) := (b1.cell (by simp; omega)).trans (by simp [go_sem])
      have bw1 : Below w.heap.size w w1 := (((Below.refl _ _).alloc (Nat.le_refl _) _).alloc (by simp) _).trans (b1.mono (by simp; omega))
      have s1 : w.heap.size + 2 ≤ w1.heap.size := by have := b1.size; simpa using this
      have y1 : w.heap.size < w1.heap.size := by omega
      have y2 : w.heap.size + 1 < w1.heap.size := by omega
      obtain ⟨d0, d1, f0, f1, _⟩ := r1
      go_wp2
      exact bodyPost_ret (v := .tuple #[.agg #[.int .i64 0, .slice none 0 0], .bool false]) (by simp [results, Try.results8, go_sem, d0, d1]) rfl ⟨_, rfl, OwnSS.nil _ _ _ _ _, ((bw1).setCell (by simp) _).setCell (by simp) _⟩
    · obtain ⟨N, rfl, hr, hp⟩ := hS.1.pairs
      have HP := Lib.hid hp
      have HR := Lib.hid hr
      have hN8 := hp.2.1
      have hN1 := hp.1
      have hpl : (pairsOf rows).length = rows.length := by rw [pairsOf, List.length_map]
      have HL := Lib.hid hpl
      clear hS hp hr hpl
      have h11 : ((N : Int) == 1) = false := by simp; omega
      have h12 : ¬ (N : Int) = 1 := by omega
      by_cases hw : 0 ≤ a ∧ a < N
      · obtain ⟨c, rfl⟩ : ∃ c : Nat, a = (c : Int) := ⟨a.toNat, by omega⟩
        have hcN : c < N := by omega
        have hP : CutP N rows c := ⟨hS0.out, by omega, by omega, by omega⟩
        rw [nbN_yes hP, nbR_yes hP, tf_yes hP]
        have hin : tf (InP 0 (c : Int) ((N : Int) - 1)) = true := tf_yes (by unfold InP; omega)
        clear hP hS0 hw
        go_enter Try.func8, Try.ntmps8
        go_wp2_with fail
        refine (implIsStandard _ _ rows _ hwn (hk.out _ (((Below.refl _ _).alloc (Nat.le_refl _) _).alloc (by simp) _)) hl).mono ?_; rintro e w1 ⟨rfl, b1⟩
        rw [hts]
        have r1 := (ResC.start (w.alloc (.cells #[.int .i64 N, .slice ao rows.length cap] 26)) 26).below b1 (by simp)
        rw [World.size_alloc] at r1
        have cx : w1.cell? ⟨w.heap.size, 0, none⟩ = some (.int .i64 N) := (b1.cell (by simp; omega)).trans (by simp [go_sem])
        have cy : w1.cell? ⟨w.heap.size, 1, none⟩ = some (.slice ao rows.length cap) := (b1.cell (by simp; omega)).trans (by simp [go_sem])
        have bw1 : Below w.heap.size w w1 := (((Below.refl _ _).alloc (Nat.le_refl _) _).alloc (by simp) _).trans (b1.mono (by simp; omega))
        have s1 : w.heap.size + 2 ≤ w1.heap.size := by have := b1.size; simpa using this
        have y1 : w.heap.size < w1.heap.size := by omega
        have y2 : w.heap.size + 1 < w1.heap.size := by omega
        go_wp2_with fail
        refine (isWire (N : Int) (c : Int) _ _).mono ?_; rintro e w2 ⟨rfl, b2⟩
        rw [hin]
        obtain ⟨w3, hw3⟩ : ∃ w3 : World, w3 = w2 := ⟨_, rfl⟩
        have cx := Below.keeps b2 _ _ cx
        have cy := Below.keeps b2 _ _ cy
        have s1 : w.heap.size + 2 ≤ w2.heap.size := by have := b2.size; omega
        have r1 := r1.below b2 (by omega)
        have bw1 := bw1.trans (b2.mono (by omega))
        have y1 : w.heap.size < w2.heap.size := by omega
        have y2 : w.heap.size + 1 < w2.heap.size := by omega
        clear b2 b1 hw3 hts hin
        go_wp2
        go_loopw [8, 42] (fun o i wr => ∃ k : Nat, k ≤ N ∧ i = .int .i64 k ∧ OwnI tInt wr w2.heap.size wr.heap.size o (idN k) ∧ Below w2.heap.size w2 wr) (fun _ i _ => N - (intOf i).toNat)
        case atStart => exact ⟨0, Nat.zero_le _, rfl, OwnI.lit0 3 w2 w2.heap.size (Nat.le_refl _), (Below.refl _ _).alloc (Nat.le_refl _) _⟩
        case round =>
          obtain ⟨k, hk9, rfl, hown, hb⟩ := hrel
          have hs := hb.size
          have hcx := Below.keeps hb _ _ cx
          by_cases hlt : k < N
          · have hl := idN_length k
            have HX : Hid (idN (k + 1) = idN k ++ [(k : Int)]) := by show _ = _; exact idN_next k
            go_wp2_with (at_builtin; refine wpList_append1_at _ rfl _ _ 38 rfl 3 (.int .i64 0) 8 Try.underlying38 infoInt (by decide) rfl w2.heap.size wr.heap.size _ _ rfl (hown.1.alloc _) ⟨wr.heap.size, 0, none⟩ 1 (.int .i64 ((k : Int))) rfl (cell_alloc0 _ _ _) rfl ?_ ?_ ?_)
            · simp; omega
            · simp; omega
            · intro v' w3 hown' hgr hat
              have R1 := OwnI.snoc hown' hown.2 (show In64 ((k : Int)) from WalkArith.wf_i64 (by omega))
              rw [← HX.out] at R1
              have R2 := below_app (hb.alloc hs _) (hown.1.alloc _) hgr (Nat.le_refl _) (by simp; omega)
              clear hown hown' hgr hat
              go_wp2
              go_roundw
              case rel => exact ⟨k + 1, by omega, by go_num, R1, R2⟩
              case measure => simp [intOf]; omega
          · obtain rfl : N = k := by omega
            clear hcx
            obtain ⟨w6, rfl⟩ : ∃ w6 : World, w6 = wr := ⟨_, rfl⟩
            obtain ⟨g, gc, hvg, hg1, hg2, hg3, hg4, hg5, F0⟩ := hown.fills (by rw [idN_length]; omega)
            rw [idN_length] at hvg hg1 F0
            subst hvg
            unfold maxLen at hg2
            have s29 := hb.size
            have F0 := F0.lower (base' := w.heap.size) (by omega)
            have bW := bw1.trans (hb.mono (by omega))
            have rW := r1.below hb (by omega)
            have cx2 := Below.keeps hb _ _ cx
            have cy2 := Below.keeps hb _ _ cy
            have bO : Below w6.heap.size w6 (w6.alloc (.cells #[] tInts)) := (Below.refl _ _).alloc (Nat.le_refl _) _
            have C0 : CutIn w N g gc w6.heap.size (w6.alloc (.cells #[] tInts)).heap.size (idN N) [] (w6.alloc (.cells #[] tInts)) (.slice (some ⟨w6.heap.size, 0, none⟩) 0 0) :=
              ⟨F0.below bO (by omega), OwnSS.lit0 _ _ _ _ (Nat.le_refl _), rW.below bO (by omega), bW.trans (bO.mono (by omega)), Below.keeps bO _ _ cx2, by simp, Nat.le_refl _, by omega, by omega⟩
            have cyW := Below.keeps bO _ _ cy2
            clear hown hb hs
            obtain ⟨lo, hlo9⟩ : ∃ lo, Hid (lo = w6.heap.size) := ⟨_, rfl⟩
            obtain ⟨W2, HW2⟩ : ∃ W, Hid (W = w6.alloc (.cells #[] tInts)) := ⟨_, rfl⟩
            go_wp2
            rw [← HW2.out] at C0 cyW ⊢
            rw [← hlo9.out] at C0 ⊢
            have HI : Hid (IntSS w (.slice ao rows.length cap) (rowsOf (pairsOf rows))) := by rw [← HR.out]; exact hk.out w (Below.refl _ _)
            obtain ⟨ao', cap', hv', _, _, hnil, hcell⟩ := pairs_open HI.out
            simp only [Value.slice.injEq] at hv'
            obtain ⟨hv1, -, hv2⟩ := hv'
            subst hv1; subst hv2
            have HC := Lib.hid hcell; clear hcell HI
            obtain ⟨i0, hi, hz0, hz1, hz2⟩ := info_parts infoInts
            clear HW2 bO bW rW cx2 cy2
            go_loopw [10, 11, 55] (fun sp o i wr => ∃ k : Nat, k ≤ rows.length ∧ i = .int .i64 k ∧ ∃ (ys : List Int) (s : Nat) (kp : List (Nat × Nat)), Hid (cuSt (pairsOf rows) c bm (idN N) k = (ys, s, kp)) ∧ sp = .int .i64 s ∧ Hid (CutIn w N g gc lo wr.heap.size ys kp wr o)) (fun _ _ i _ => rows.length - (intOf i).toNat)
            case atStart => exact ⟨0, Nat.zero_le _, rfl, _, _, _, Lib.hid rfl, rfl, Lib.hid C0⟩
            case round =>
              obtain ⟨k, hk9, rfl, ys, s, kp, HS, rfl, HC3⟩ := hrel
              have hSt := cu_st HP.out hcN bm k (by omega)
              rw [HS.out] at hSt
              obtain ⟨hln, hsN, hin6, hpos, hkl, hkp⟩ := hSt
              have hln : ys.length = N := hln
              have hsN : s < N := hsN
              have hkl : kp.length ≤ k := hkl
              have hb := HC3.out.2.2.2.1
              by_cases hlt : k < rows.length
              · have hlp : k < (pairsOf rows).length := by rw [HL.out]; exact hlt
                obtain ⟨b, q, x, po, pc, rfl, hu, g1, g2, d0, d1⟩ := HC.out k hlp
                have c1 := Below.keeps hb _ _ hu
                have c2 := Below.keeps hb _ _ d0
                have c3 := Below.keeps hb _ _ d1
                have hxw : x < w.heap.size := World.block_lt_of_cell? w _ d0
                have hbw : b < w.heap.size := World.block_lt_of_cell? w _ hu
                unfold maxLen at g2
                clear hu d0 d1 hkp hin6
                obtain ⟨hia, hib, hne⟩ := HP.out.2.2.2 k hlp
                have HPK : Hid ((pairsOf rows)[k] = ((pairsOf rows)[k].1, (pairsOf rows)[k].2)) := Lib.hid rfl
                have hpos : ∀ j, j < N → j ≠ s → 0 ≤ ys.getD j 0 ∧ ys.getD j 0 < N := hpos
                have hloN : w.heap.size + 2 ≤ g := HC3.out.2.2.2.2.2.2.2.2
                have hgw : g < wr.heap.size := by have := HC3.out.2.2.2.2.2.2.2.1; have := HC3.out.2.2.2.2.2.1; omega
                have e1 := HC3.out.1.getD ((pairsOf rows)[k].1) hia
                have e2 := HC3.out.1.getD ((pairsOf rows)[k].2) hib
                have f3 := HC3.out.1.frozen ((pairsOf rows)[k].1)
                have f4 := HC3.out.1.frozen ((pairsOf rows)[k].2)
                obtain ⟨ya, X1⟩ : ∃ z, Hid (ys.getD (pairsOf rows)[k].1 0 = z) := ⟨_, Lib.hid rfl⟩
                obtain ⟨yb, X2⟩ : ∃ z, Hid (ys.getD (pairsOf rows)[k].2 0 = z) := ⟨_, Lib.hid rfl⟩
                rw [X1.out] at e1
                rw [X2.out] at e2
                have KA := fun n1 n2 => cuSt_A (c := c) (most := bm) (xs := idN N) (k := k) (s := s) HS.out hlp n1 n2
                have KB := fun n1 n2 => cuSt_B (c := c) (most := bm) (xs := idN N) (k := k) (s := s) HS.out hlp n1 n2
                have KC := fun n1 n2 => cuSt_C (c := c) (most := bm) (xs := idN N) (k := k) (s := s) HS.out hlp n1 n2
                generalize (pairsOf rows)[k] = pk at *
                obtain ⟨ia, ib⟩ := pk
                have KA := Lib.hid KA
                have KB := Lib.hid KB
                have KC := Lib.hid KC
                clear HPK
                simp only [] at hia hib hne
                by_cases n1 : ia = s
                · cases bm
                  · have HS1 := Lib.hid (KC.out (.inl n1) (by simp [cuTo]; omega))
                    have hto : cuTo false (ia, ib) = ia := rfl
                    have n9 : ib ≠ s := by omega
                    subst n1
                    have t1 : ((ia : Int) != (ia : Int)) = false := by simp
                    have t3 : ((ib : Int) != (ia : Int)) = true := by simp; omega
                    clear hto hpos X1 X2 HS
                    go_wp2
                    go_region
                    go_wp2
                    go_roundw
                    case rel => exact ⟨k + 1, by omega, by go_num, _, _, _, Lib.hid HS1.out, rfl, Lib.hid (HC3.out.below ((Below.refl _ wr).drew))⟩
                    case measure => first | (simp [intOf]; done) | (simp [intOf]; omega)
                  · have HS1 := Lib.hid (KB.out (.inl n1) (by simp [cuTo]; omega))
                    have hto : cuTo true (ia, ib) = ib := rfl
                    have n9 : ib ≠ s := by omega
                    subst n1
                    have t1 : ((ia : Int) != (ia : Int)) = false := by simp
                    have t3 : ((ib : Int) != (ia : Int)) = true := by simp; omega
                    have HS2 : Hid (cuSt (pairsOf rows) c true (idN N) (k + 1) = ((ys.set ia yb).set ib ya, ib, kp)) := by show _ = _; rw [HS1.out, hto]; simp only [X1.out, X2.out]
                    have C1 := HC3.out.set1 ia yb
                    have e4 : (wr.setCell ⟨g, ia, none⟩ (.int .i64 yb)).cell? ⟨g, ib, none⟩ = some (.int .i64 ((ys.set ia yb).getD ib 0)) := C1.1.getD ib (by omega)
                    have f5 := C1.1.frozen ib
                    have C3 := C1.set1 ib ya
                    have HC5 := Lib.hid C3
                    clear HS1 hto hpos X1 X2 C1 C3 HC3 HS
                    go_wp2
                    go_region
                    go_wp2
                    go_region
                    go_wp2
                    go_roundw
                    case rel => exact ⟨k + 1, by omega, by go_num, _, _, _, Lib.hid HS2.out, rfl, Lib.hid (HC5.out.below ((Below.refl _ _).drew.drew)).wide⟩
                    case measure => first | (simp [intOf]; done) | (simp [intOf]; omega)
                · by_cases n2 : ib = s
                  · cases bm
                    · have HS1 := Lib.hid (KB.out (.inr n2) (by simp [cuTo]; omega))
                      have hto : cuTo false (ia, ib) = ia := rfl
                      have n9 : ia ≠ s := by omega
                      subst n2
                      have t1 : ((ia : Int) != (ib : Int)) = true := by simp; omega
                      have t2 : ((ib : Int) != (ib : Int)) = false := by simp
                      have HS2 : Hid (cuSt (pairsOf rows) c false (idN N) (k + 1) = ((ys.set ia yb).set ib ya, ia, kp)) := by show _ = _; rw [HS1.out, hto]; simp only [X1.out, X2.out]
                      have C1 := HC3.out.set1 ia yb
                      have e4 : (wr.setCell ⟨g, ia, none⟩ (.int .i64 yb)).cell? ⟨g, ib, none⟩ = some (.int .i64 ((ys.set ia yb).getD ib 0)) := C1.1.getD ib (by omega)
                      have f5 := C1.1.frozen ib
                      have C3 := C1.set1 ib ya
                      have HC5 := Lib.hid C3
                      clear HS1 hto hpos X1 X2 C1 C3 HC3 HS
                      go_wp2
                      go_region
                      go_wp2
                      go_region
                      go_wp2
                      go_roundw
                      case rel => exact ⟨k + 1, by omega, by go_num, _, _, _, Lib.hid HS2.out, rfl, Lib.hid (HC5.out.below ((Below.refl _ _).drew.drew)).wide⟩
                      case measure => first | (simp [intOf]; done) | (simp [intOf]; omega)
                    · have HS1 := Lib.hid (KC.out (.inr n2) (by simp [cuTo]; omega))
                      have hto : cuTo true (ia, ib) = ib := rfl
                      have n9 : ia ≠ s := by omega
                      subst n2
                      have t1 : ((ia : Int) != (ib : Int)) = true := by simp; omega
                      have t2 : ((ib : Int) != (ib : Int)) = false := by simp
                      clear hto hpos X1 X2 HS
                      go_wp2
                      go_region
                      go_wp2
                      go_roundw
                      case rel => exact ⟨k + 1, by omega, by go_num, _, _, _, Lib.hid HS1.out, rfl, Lib.hid (HC3.out.below ((Below.refl _ wr).drew))⟩
                      case measure => first | (simp [intOf]; done) | (simp [intOf]; omega)
                  · have HS1 := Lib.hid (KA.out n1 n2)
                    have HQ : Hid (0 ≤ ya ∧ 0 ≤ yb ∧ In64 ya ∧ In64 yb) := by
                      have z1 := hpos _ hia n1
                      have z2 := hpos _ hib n2
                      rw [X1.out] at z1
                      rw [X2.out] at z2
                      exact ⟨z1.1, z2.1, in64_small (by omega) (by omega), in64_small (by omega) (by omega)⟩
                    rw [X1.out, X2.out] at HS1
                    have t1 : ((ia : Int) != (s : Int)) = true := by simp; omega
                    have t2 : ((ib : Int) != (s : Int)) = true := by simp; omega
                    clear hpos n1 n2
                    go_wp2
                    go_region
                    go_wp2
                    obtain ⟨W3, HW3⟩ : ∃ W, Hid (W = wr.drew) := ⟨_, rfl⟩
                    have C3 : CutIn w N g gc lo W3.heap.size ys kp W3 u11 := by rw [HW3.out]; exact (HC3.out.below ((Below.refl _ wr).drew))
                    have m0 : W3.cell? ⟨x, po, none⟩ = some (.int .i64 ia) := by rw [HW3.out]; exact c2
                    have m1 : W3.cell? ⟨x, po + 1, none⟩ = some (.int .i64 ib) := by rw [HW3.out]; exact c3
                    have m2 : W3.cell? ⟨g, ia, none⟩ = some (.int .i64 ya) := by rw [HW3.out]; exact e1
                    have m3 : W3.cell? ⟨g, ib, none⟩ = some (.int .i64 yb) := by rw [HW3.out]; exact e2
                    rw [← HW3.out]
                    clear HW3 HC3 c1 c2 c3 e1 e2 f3 f4
                    obtain ⟨vs, hO, hR⟩ := C3.2.1
                    have HO := Lib.hid hO
                    have HW := Lib.hid hR
                    have HU : Hid (∀ g, g < lo → some g ≠ (u11).ownBlock) := fun g hg e => by have := HO.out.lt e.symm; omega
                    have hvl : vs.length ≤ 60 := by have := HW.out.1; rw [rowsOf_length] at this; omega
                    have hlo3 : lo ≤ W3.heap.size := C3.2.2.2.2.2.1
                    have hglo : g < lo := C3.2.2.2.2.2.2.2.1
                    have HC4 := Lib.hid C3
                    clear hO hR C3
                    try clear cx
                    try clear cy
                    try clear cx2
                    try clear cy2
                    try clear r1
                    try clear rW
                    try clear F0
                    try clear C0
                    try clear cyW
                    try clear bO
                    try clear bW
                    try clear b1
                    try clear b2
                    try clear bw1
                    try clear hd
                    try clear hin
                    try clear hs2
                    try clear s29
                    try clear pl
                    try clear q8
                    as_aux_lemma =>
                      go_region_held3 (fun w' => w'.cell? ⟨g, ia, none⟩ = some (.int .i64 (ya)) ∧ w'.cell? ⟨g, ib, none⟩ = some (.int .i64 (yb))) ((go_split_ands; refine ⟨?_, ?_⟩ <;> (first | assumption | exact cell_al (by assumption) | exact cell_st (by assumption) (by first | (simp; done) | (simp; omega)) | exact cell_gr hgrow (by assumption) (HU.out _ (by first | (simp; done) | (simp; omega))) | exact Below.keeps b2 _ _ (by assumption)))) ((refine step_append_lies _ (by rfl) (.tmp 73) (.tmp 83) 22 (by rfl) (lo) tInts i0 (.slice none 0 0) 1 24 Try.underlying22 hi hz0 hz1 hz2 rfl (by decide) u11 vs.length vs (by first | rfl | simp [Act.eval]) (by exact (HO.out.1.alloc _ |>.alloc _)) ⟨W3.heap.size + 1, 0, none⟩ 1 1 [.slice (some ⟨W3.heap.size, 0, none⟩) 2 2] (by simp [Act.eval]) (by rfl) (by exact news_two _ _ _ _) (by simp [Value.oneCell']) (by decide) (by unfold maxLen; omega) (by omega) (by simp; omega) (W3.heap.size + 2) (by simp) ?_; intro g9 cap2 w9 hown hgrow hat hlt2))
                      all_goals
                        have C3 := CutIn.app HC4.out HO.out HW.out HQ.out.2.2.1 HQ.out.2.2.2 HQ.out.1 HQ.out.2.1 hown (by simp) hgrow
                        clear hown hgrow hat hlt2 HO HW HC4
                        go_wp2
                        go_roundw
                        case rel => exact ⟨k + 1, by omega, by go_num, _, _, _, Lib.hid HS1.out, rfl, Lib.hid C3⟩
                        case measure => first | (simp [intOf]; done) | (simp [intOf]; omega)
              · have hk' : k = rows.length := by omega
                subst hk'
                obtain ⟨a3, c3, hv3, hcap3, hmax3, _, _⟩ := pairs_open HC3.out.2.1.intss
                subst hv3
                unfold maxLen at hmax3
                have hcx := HC3.out.2.2.2.2.1
                have hgN : w.heap.size + 2 ≤ g := HC3.out.2.2.2.2.2.2.2.2
                have hglo : g < lo := HC3.out.2.2.2.2.2.2.2.1
                have hlo4 : lo ≤ wr.heap.size := HC3.out.2.2.2.2.2.1
                have hpos : ∀ j, j < N → j ≠ s → 0 ≤ ys.getD j 0 ∧ ys.getD j 0 < ((N : Nat) : Int) := by exact hpos
                have HPOS := Lib.hid hpos
                have HKP : Hid (∀ q ∈ kp, q.1 < N ∧ q.2 < N) := Lib.hid hkp

                have HRES : Hid (cutR N rows c bm = cutL (nmL ys s (N) N) kp) := by
                  show _ = _
                  unfold cutR cutS; simp only [Int.toNat_natCast]; rw [HS.out]

                clear hpos hkp hin6 HS
                obtain ⟨j0, hj, hy0, hy1, hy2⟩ := info_parts infoInt
                go_wp2_with (at_make; refine wpList_make_full _ rfl _ _ 38 rfl w.heap.size 3 j0 (.int .i64 0) 1 Try.underlying38 hj hy0 hy1 .i64 .i64 _ _ N rfl rfl rfl rfl ?_ ?_ ?_ ?_)
                · first | omega | (rw [hy2]; omega)
                · unfold maxLen; omega
                · exact hb.size
                intro w4 hown4 hg4
                have F4 : Fills tInt w.heap.size wr.heap.size N w4 N (List.replicate N 0) := fills_zero (by simpa [toList_madeCells_one] using hown4)
                have b4 : Below wr.heap.size wr w4 := (Below.refl _ wr).grown hg4 (Nat.le_refl _) (fun k h => by cases h)
                have s4 : wr.heap.size < w4.heap.size := (hown4.lt _ rfl).2
                obtain ⟨hh, hhh⟩ : ∃ hh, Hid (hh = wr.heap.size) := ⟨_, rfl⟩
                have C4 : CutIn w N g gc lo hh ys kp w4 (.slice a3 kp.length c3) := by rw [hhh.out]; exact HC3.out.below b4
                rw [← hhh.out] at F4 b4 s4 hlo4 ⊢
                have HC4 := Lib.hid C4
                clear hown4 hg4 HC3 C4 hb hcx j0 hj hy0 hy1 hy2
                go_wp2
                go_loopw [18, 112] (fun nn i wr => ∃ k : Nat, k ≤ N ∧ i = .int .i64 k ∧ nn = .int .i64 (cnt s k) ∧ Hid (Fills tInt w.heap.size hh N wr N (nmL ys s (N) k)) ∧ Hid (CutIn w N g gc lo hh ys kp wr (.slice a3 kp.length c3))) (fun _ i _ => N - (intOf i).toNat)
                case atStart => exact ⟨0, Nat.zero_le _, rfl, rfl, Lib.hid F4, HC4⟩
                case round =>
                  obtain ⟨k, hk8, rfl, rfl, HF, HC5⟩ := hrel
                  have hcb := cnt_bd s k
                  by_cases hlt : k < N
                  · have e1 := HC5.out.1.getD k hlt
                    have hgw5 : g < wr.heap.size := (HC5.out.1.2.lt _ rfl).2
                    have hhw5 : hh < wr.heap.size := (HF.out.2.lt _ rfl).2
                    by_cases hks : k = s
                    · have H1 := Lib.hid (nmL_skip ys (N) hks)
                      have H2 : Hid (cnt s (k + 1) = cnt s k) := by show _ = _; rw [hks]; exact cnt_skip s
                      have t1 : ((k : Int) != (s : Int)) = false := by simp [hks]

                      clear hks
                      go_wp2
                      go_roundw
                      case rel => exact ⟨k + 1, by omega, by go_num, by rw [H2.out], Lib.hid (by rw [H1.out]; exact HF.out), HC5⟩
                      case measure => simp [intOf]; omega
                    · have H1 := Lib.hid (nmL_next ys (N) hks)
                      have H2 : Hid (cnt s (k + 1) = cnt s k + 1) := Lib.hid (cnt_next hks)
                      have t1 : ((k : Int) != (s : Int)) = true := by simp; omega
                      obtain ⟨z, HZ, hz9⟩ : ∃ z : Nat, Hid (ys.getD k 0 = z) ∧ z < N := ⟨(ys.getD k 0).toNat, by have := HPOS.out k hlt hks; show _ = _; omega, by have := HPOS.out k hlt hks; omega⟩
                      rw [HZ.out] at e1 H1
                      rw [Int.toNat_natCast] at H1

                      have f1 := HF.out.frozen z
                      have e2 := HF.out.getD z hz9
                      have F6 := HF.out.set z (cnt s k)
                      rw [← H1.out] at F6
                      have C6 := HC5.out.far (b := hh) (k := z) (Nat.le_refl _) (.int .i64 (cnt s k))
                      have HF6 := Lib.hid F6
                      have HC6 := Lib.hid C6
                      generalize cnt s k = cc at *
                      clear hks HF HC5 F6 C6 HZ H1
                      go_wp2
                      go_roundw
                      case rel => exact ⟨k + 1, by omega, by go_num, by rw [H2.out], HF6, HC6⟩
                      case measure => simp [intOf]; omega
                  · obtain rfl : N = k := by omega
                    have hce : Hid (cnt s N = (N : Int) - 1) := Lib.hid (cnt_end hsN)
                    rw [hce.out]
                    have hcx := HC5.out.2.2.2.2.1
                    have hb5 := HC5.out.2.2.2.1
                    have r5 := HC5.out.2.2.1
                    have hI5 := HC5.out.2.1.intss
                    have hhw5 : hh < wr.heap.size := (HF.out.2.lt _ rfl).2
                    have F5 := HF.out
                    obtain ⟨W5, HW5⟩ : ∃ W, W = wr := ⟨_, rfl⟩
                    subst HW5
                    clear HC5 HF hcb
                    obtain ⟨W1, HW1⟩ : ∃ W, Hid (W = W5.alloc (.cells #[.int .i64 ((N : Int) - 1), .slice none 0 0] 26)) := ⟨_, rfl⟩
                    have bO : Below W5.heap.size W5 W1 := by rw [HW1.out]; exact (Below.refl _ _).alloc (Nat.le_refl _) _
                    have hS : NetIn W5.heap.size (W5.heap.size + 1) ((N : Int) - 1) [] W1 (.slice none 0 0) := by rw [HW1.out]; exact NetIn.start _ _ _
                    obtain ⟨a4, c4, hv4, hcap4, hmax4, hnil4, hcell4⟩ := pairs_open hI5
                    simp only [Value.slice.injEq] at hv4
                    obtain ⟨hv1, -, hv2⟩ := hv4
                    subst hv1; subst hv2
                    have HCK := Lib.hid hcell4
                    clear hcell4 hI5 hnil4
                    have s2 : W5.heap.size + 1 ≤ W1.heap.size := by rw [HW1.out]; simp
                    have HF5 := Lib.hid F5
                    have HR5 := Lib.hid r5
                    clear F5 r5
                    go_wp2
                    rw [← HW1.out]
                    clear HW1
                    go_loopw [131] (fun i wr => ∃ k : Nat, k ≤ kp.length ∧ i = .int .i64 k ∧ ∃ (u : Value), Hid (NetIn W5.heap.size (W5.heap.size + 1) ((N : Int) - 1) (cutL (nmL ys s (N) N) (kp.take k)) wr u) ∧ Hid (Kept W5.heap.size (W5.heap.size + 1) W1 wr)) (fun i _ => kp.length - (intOf i).toNat)
                    case atStart => exact ⟨0, Nat.zero_le _, rfl, _, Lib.hid hS, Lib.hid (Kept.refl _ _ _ (by omega))⟩
                    case round =>
                      obtain ⟨k, hk7, rfl, u, HN, HK⟩ := hrel
                      have hbr : Below W5.heap.size W5 wr := bO.trans (HK.out.1.mono (by omega))
                      by_cases hlt : k < kp.length
                      · obtain ⟨b, q, x, po, pc, rfl, hu, g1, g2, d0, d1⟩ := HCK.out k hlt
                        have c1 := Below.keeps hbr _ _ hu
                        have c2 := Below.keeps hbr _ _ d0
                        have c3 := Below.keeps hbr _ _ d1
                        have hxw : x < W5.heap.size := World.block_lt_of_cell? W5 _ d0
                        have hbw : b < W5.heap.size := World.block_lt_of_cell? W5 _ hu
                        unfold maxLen at g2
                        obtain ⟨hia, hib⟩ := HKP.out kp[k] (List.getElem_mem hlt)
                        have HD := Lib.hid (cutL_next (nmL ys s (N) N) kp k hlt)
                        have w1a := nmL_getD_bd ys s (N) N kp[k].1
                        have w1b := nmL_getD_bd ys s (N) N kp[k].2
                        have F7 := HF5.out.below hbr hhw5
                        have e1 := F7.getD kp[k].1 (by omega)
                        have e2 := F7.getD kp[k].2 (by omega)
                        clear hu d0 d1 F7
                        generalize kp[k].1 = ia at *
                        generalize kp[k].2 = ib at *
                        generalize (nmL ys s (N) N).getD ia 0 = ya at *
                        generalize (nmL ys s (N) N).getD ib 0 = yb at *
                        have w2a : In64 ya := in64_small (by omega) (by omega)
                        have w2b : In64 yb := in64_small (by omega) (by omega)
                        obtain ⟨⟨vs, hO, hR⟩, cn, cu2, cf2, hB, hlo⟩ := HN.out
                        have HO := Lib.hid hO
                        have HW := Lib.hid hR
                        have HU : Hid (∀ g, g < W5.heap.size + 1 → some g ≠ u.ownBlock) := fun g hg e => by have := HO.out.lt e.symm; omega
                        have hvl : vs.length ≤ 60 := by have := HW.out.1; rw [cutL_length, List.length_take] at this; omega
                        have hB2 : W5.heap.size < wr.heap.size := by omega
                        have hB3 : W5.heap.size < wr.heap.size + 1 := by omega
                        clear hO hR HN
                        go_wp2
                        as_aux_lemma =>
                          rw [show Op.load 22 (Operand.tmp 135) = ldOp 22 (Operand.tmp 135) from rfl]
                          go_region_held3 (fun w' => w'.cell? ⟨x, po, none⟩ = some (.int .i64 (ia : Nat)) ∧ w'.cell? ⟨x, po + 1, none⟩ = some (.int .i64 (ib : Nat)) ∧ w'.cell? ⟨hh, ia, none⟩ = some (.int .i64 ya) ∧ w'.cell? ⟨hh, ib, none⟩ = some (.int .i64 yb)) ((go_split_ands; refine ⟨?_, ?_, ?_, ?_⟩ <;> (first | assumption | exact cell_al (by assumption) | exact cell_st (by assumption) (by first | (simp; done) | (simp; omega)) | exact cell_gr hgrow (by assumption) (HU.out _ (by first | (simp; done) | (simp; omega))) | exact Below.keeps b2 _ _ (by assumption)))) ((refine step_append_lies _ (by rfl) (.tmp 136) (.tmp 150) 22 (by rfl) (W5.heap.size + 1) tInts i0 (.slice none 0 0) 1 24 Try.underlying22 hi hz0 hz1 hz2 rfl (by decide) u vs.length vs (by first | rfl | simp [Act.eval]) (by exact (HO.out.1.alloc _ |>.alloc _)) ⟨wr.heap.size + 1, 0, none⟩ 1 1 [.slice (some ⟨wr.heap.size, 0, none⟩) 2 2] (by simp [Act.eval]) (by rfl) (by exact news_two _ _ _ _) (by simp [Value.oneCell']) (by decide) (by unfold maxLen; omega) (by omega) (by simp; omega) (wr.heap.size + 2) (by simp) ?_; intro g9 cap2 w9 hown hgrow hat hlt2; have zz := after_new (below_two _ _ _) hgrow cu2 cf2 (HU.out _ (by first | (simp; done) | (simp; omega))); obtain ⟨z1, z2⟩ := zz))
                          all_goals
                            obtain ⟨P, Q⟩ := NetIn.push (n := ((N : Int) - 1)) HO.out HW.out cn cu2 cf2 hB hlo (below_two _ _ _) (pair_two _ _ _ w2a w2b _) (by simp) hown hgrow HK.out
                            rw [← HD.out] at P
                            clear hown hgrow hat hlt2 z1 z2 HO HW
                            go_wp2
                            go_roundw
                            case rel => exact ⟨k + 1, by omega, by go_num, _, Lib.hid P, Lib.hid Q⟩
                            case measure => first | (simp [intOf]; done) | (simp [intOf]; omega)
                      · have hk' : k = kp.length := by omega
                        subst hk'
                        rw [List.take_length] at HN
                        obtain ⟨hR, cn, cu, cf, hB, hlo⟩ := HN.out
                        obtain ⟨d0, d1, f0, f1, _⟩ := (HR5.out).below hbr (by omega)
                        obtain ⟨a5, l5, c5, hu⟩ := hR.shape
                        subst hu
                        have bwr : Below w.heap.size w wr := hb5.trans (hbr.mono (by omega))
                        obtain ⟨RR, BB⟩ := hR.res (R := w.heap.size + 1) (x := .int .i64 ((N : Int) - 1)) (y := .slice a5 l5 c5) (by omega) bwr (by omega)
                        clear hR HN HK
                        go_wp2
                        exact bodyPost_ret (v := .tuple #[.agg #[.int .i64 ((N : Int) - 1), .slice a5 l5 c5], .bool true]) (by simp [results, Try.results8, go_sem, d0, d1]) rfl ⟨_, rfl, (by rw [HRES.out]; exact RR), BB⟩
      · have hNP : ¬ CutP N rows a := fun h => hw ⟨h.2.2.1, h.2.2.2⟩
        rw [nbN_no hNP, nbR_no hNP, tf_no hNP]
        have hin : tf (InP 0 a ((N : Int) - 1)) = false := tf_no (by unfold InP; omega)
        clear hNP
        go_enter Try.func8, Try.ntmps8
        go_wp2_with fail
        refine (implIsStandard _ _ rows _ hwn (hk.out _ (((Below.refl _ _).alloc (Nat.le_refl _) _).alloc (by simp) _)) hl).mono ?_; rintro e w1 ⟨rfl, b1⟩
        rw [hts]
        have r1 := (ResC.start (w.alloc (.cells #[.int .i64 N, .slice ao rows.length cap] 26)) 26).below b1 (by simp)
        rw [World.size_alloc] at r1
        have cx : w1.cell? ⟨w.heap.size, 0, none⟩ = some (.int .i64 N) := (b1.cell (by simp; omega)).trans (by simp [go_sem])
        have cy : w1.cell? ⟨w.heap.size, 1, none⟩ = some (.slice ao rows.length cap) := (b1.cell (by simp; omega)).trans (by simp [go_sem])
        have bw1 : Below w.heap.size w w1 := (((Below.refl _ _).alloc (Nat.le_refl _) _).alloc (by simp) _).trans (b1.mono (by simp; omega))
        have s1 : w.heap.size + 2 ≤ w1.heap.size := by have := b1.size; simpa using this
        have y1 : w.heap.size < w1.heap.size := by omega
        have y2 : w.heap.size + 1 < w1.heap.size := by omega
        go_wp2_with fail
        refine (isWire (N : Int) a _ _).mono ?_; rintro e w2 ⟨rfl, b2⟩
        rw [hin]
        have s2 := b2.size
        obtain ⟨d0, d1, f0, f1, _⟩ := r1.below b2 (by omega)
        go_wp2
        exact bodyPost_ret (v := .tuple #[.agg #[.int .i64 0, .slice none 0 0], .bool false]) (by simp [results, Try.results8, go_sem, d0, d1]) rfl ⟨_, rfl, OwnSS.nil _ _ _ _ _, ((bw1.trans (b2.mono (by omega))).setCell (by simp) _).setCell (by simp) _⟩
  · have hts := tf_no hS
    have hNP : ¬ CutP n rows a := fun h => hS h.1
    rw [nbN_no hNP, nbR_no hNP, tf_no hNP]
    clear hNP
    go_enter Try.func8, Try.ntmps8
    go_wp2_with fail
    refine (implIsStandard _ _ rows _ hwn (hk.out _ (((Below.refl _ _).alloc (Nat.le_refl _) _).alloc (by simp) _)) hl).mono ?_; rintro e w1 ⟨rfl, b1⟩
    rw [hts]
    have r1 := (ResC.start (w.alloc (.cells #[.int .i64 n, .slice ao rows.length cap] 26)) 26).below b1 (by simp)
    rw [World.size_alloc] at r1
    have cx : w1.cell? ⟨w.heap.size, 0, none⟩ = some (.int .i64 n) := (b1.cell (by simp; omega)).trans (by simp [go_sem])
    have cy : w1.cell? ⟨w.heap.size, 1, none⟩ = some (.slice ao rows.length cap) := (b1.cell (by simp; omega)).trans (by simp [go_sem])
    have bw1 : Below w.heap.size w w1 := (((Below.refl _ _).alloc (Nat.le_refl _) _).alloc (by simp) _).trans (b1.mono (by simp; omega))
    have s1 : w.heap.size + 2 ≤ w1.heap.size := by have := b1.size; simpa using this
    have y1 : w.heap.size < w1.heap.size := by omega
    have y2 : w.heap.size + 1 < w1.heap.size := by omega
    obtain ⟨d0, d1, f0, f1, _⟩ := r1
    go_wp2
    exact bodyPost_ret (v := .tuple #[.agg #[.int .i64 0, .slice none 0 0], .bool false]) (by simp [results, Try.results8, go_sem, d0, d1]) rfl ⟨_, rfl, OwnSS.nil _ _ _ _ _, ((bw1).setCell (by simp) _).setCell (by simp) _⟩
end Go.Proofs.Ytboimhjmkcdgdaa
