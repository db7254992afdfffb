/- Contract: ByLevels, the program's. -/
import Derived.Test.YthcnmaapcniehaaByG
namespace Go.Proofs.Ythcnmaapcniehaa
open Go.RowKit
set_option linter.unusedVariables false

theorem srtB_bd {N : Nat} {ps : List (Nat × Nat)} (hp : PsOk N ps) (k : Nat) (h : k < (srtB ps).length) : (srtB ps).getD k 0 < ps.length := by
  have hm : (srtB ps).getD k 0 ∈ srtB ps := getD_mem' h 0
  unfold srtB at hm ⊢
  exact (mem_byN.1 hm).1
theorem srtB_length {N : Nat} {ps : List (Nat × Nat)} (hp : PsOk N ps) : (srtB ps).length = ps.length := by
  have h1 : ∀ x, x ∈ srtB ps ↔ x < ps.length := fun x => by
    have h6 := hp.2.2.1
    have h7 : maxTo (levL ps) ps.length ≤ (60 : Nat) := by
      have h9 : ∀ k, k ≤ ps.length → maxTo (levL ps) k ≤ 60 := by
        intro k
        induction k with
        | zero => intro _; simp [maxTo]
        | succ k ih =>
          intro hk9
          have h10 := ih (by omega)
          rw [maxTo_succ _ _ (by rw [levL_length]; omega)]
          have h11 := lvB_bd ps k hk9
          unfold lvB at h11
          rw [List.getD_eq_getElem?_getD, List.getElem?_eq_getElem (by rw [levL_length]; omega), Option.getD_some] at h11
          omega
      exact h9 _ (Nat.le_refl _)
    rw [← byN_srt hp h7]
    exact byN_all hp h7 x
  have hn : (srtB ps).Nodup := nodup_lt (ltB_irr ps) (pair_byN ps 8 60)
  have a1 := hn.length_le_of_subset (l₂ := List.range ps.length) fun x hx => List.mem_range.2 ((h1 x).1 hx)
  have a2 := (List.nodup_range (n := ps.length)).length_le_of_subset (l₂ := srtB ps) fun x hx => (h1 x).2 (List.mem_range.1 hx)
  simp at a1 a2; omega
theorem pkL_take (ps : List (Nat × Nat)) (l : List Nat) (k j : Nat) (h : k < l.length) (hj : l.getD k 0 = j) (h2 : j < ps.length) : rowsOf (pkL ps (l.take (k + 1))) = rowsOf (pkL ps (l.take k)) ++ [[(ps[j].1 : Int), (ps[j].2 : Int)]] := by
  have e : l[k] = j := by rw [← hj, List.getD_eq_getElem?_getD, List.getElem?_eq_getElem h]; rfl
  rw [take_next _ k h, e]
  exact pkL_snoc ps _ _ h2

theorem by_le (n : Int) (rows : List (List Int)) : sumLen (nbR (NetP n rows) (byR n rows)) ≤ 120 := nbR_le fun hp => by
  obtain ⟨N, rfl, hrows, hp2⟩ := hp.pairs
  have h := srtB_length hp2
  have h60 := hp2.2.2.1
  unfold byR
  rw [sumLen_rowsOf, pkL_length, h]
  omega

set_option maxHeartbeats 8000000 in
set_option maxRecDepth 100000 in
theorem implByLevels (n : Int) (v : Value) (rows : List (List Int)) (w : World) (hwn : (Lit.int .i64 n).wf = true) (h : IntSS w v rows) (hl : rows.length + sumLen rows ≤ 1048576) :
    Calls Try.prog 7 #[.agg #[.int .i64 n, v]] w (GivesNB w (nbN (NetP n rows) n) (nbR (NetP n rows) (byR n rows)) (tf (NetP n rows))) := by
  have hk : Hid (∀ W, Below w.heap.size w W → IntSS W v rows) := fun W hb => h.keep (Below.keeps hb)
  rcases Classical.em (NetP n rows) with hS | hS
  · have hts := tf_yes hS
    rw [nbN_yes hS, nbR_yes hS]
    obtain ⟨N, rfl, hrows, hp⟩ := hS.pairs
    have HRES : Hid (byR (N : Int) rows = rowsOf (pkL (pairsOf rows) (srtB (pairsOf rows)))) := Lib.hid rfl
    rw [HRES.out]
    clear HRES
    have HP0 := Lib.hid hp
    have HNOK : Hid (∀ W, Below w.heap.size w W → Calls Try.prog 16 #[.agg #[.int .i64 N, v]] W (GivesB W (tf (NetP N rows)))) := Lib.hid fun W hb => implNetworkOk _ _ rows W (hk.out W hb)
    rw [hts] at HNOK ⊢
    generalize pairsOf rows = ps at *
    have hk2 : Hid (∀ W, Below w.heap.size w W → IntSS W v (rowsOf ps)) := Lib.hid fun W hb => hrows ▸ hk.out W hb
    have hp1 := hp.1
    have hp8 := hp.2.1
    have h60 := hp.2.2.1
    have hsl := srtB_length hp
    have hbd := srtB_bd hp
    obtain ⟨so, HSO⟩ : ∃ so, Hid (srtB ps = so) := ⟨_, Lib.hid rfl⟩
    rw [HSO.out] at hsl hbd ⊢
    have HBD := Lib.hid hbd
    clear hbd
    obtain ⟨ao, cap, hv, hcap, hmax, _, hcell⟩ := pairs_open (hk2.out w (Below.refl _ _))
    subst hv
    obtain ⟨ao', cap', hv', hcap', hmax', _, hcell'⟩ := hk2.out w (Below.refl _ _)
    rw [rowsOf_length] at hv' hcap'
    simp only [Value.slice.injEq] at hv'
    obtain ⟨rfl, -, rfl⟩ := hv'
    have HC := Lib.hid hcell'
    unfold maxLen at hmax
    clear hcell hcell' hrows hk hS h hl hwn hts hp hcap' hmax'
    obtain ⟨i0, hi, hz0, hz1, hz2⟩ := info_parts infoInts
    go_enter Try.func7, Try.ntmps7
    go_wp2_with fail
    refine (HNOK.out _ (((Below.refl _ _).alloc (Nat.le_refl _) _).alloc (by simp) _)).mono ?_; rintro e w1 ⟨rfl, b1⟩
    have r1 := (ResC.start (w.alloc (.cells #[.int .i64 N, .slice ao ps.length cap] 26)) 26).below b1 (by simp)
    rw [World.size_alloc] at r1
    have cx : w1.cell? ⟨w.heap.size, 0, none⟩ = some (.int .i64 N) := (b1.cell (by simp; omega)).trans (by simp [go_sem])
    have cy : w1.cell? ⟨w.heap.size, 1, none⟩ = some (.slice ao ps.length cap) := (b1.cell (by simp; omega)).trans (by simp [go_sem])
    have bw1 : Below w.heap.size w w1 := (((Below.refl _ _).alloc (Nat.le_refl _) _).alloc (by simp) _).trans (b1.mono (by simp; omega))
    have s1 : w.heap.size + 2 ≤ w1.heap.size := by have := b1.size; simpa using this
    have y01 : w.heap.size < w1.heap.size := by omega
    clear b1 HNOK
    go_wp2_with fail
    refine (levels N _ ps w1 (hk2.out _ bw1) HP0.out).mono ?_; rintro e w2 ⟨lv, rfl, OL, b2⟩
    obtain ⟨al, ll, cl, hlv⟩ := OL.shape
    have IL := OL.ints
    have hll : lv = .slice al ps.length cl := by
      obtain ⟨al', cl', hv, _⟩ := id IL
      rw [levL_length] at hv
      rw [hlv] at hv ⊢
      simp only [Value.slice.injEq] at hv
      obtain ⟨rfl, rfl, rfl⟩ := hv
      rfl
    clear hlv
    subst hll
    have s2 := b2.size
    have cx2 := Below.keeps b2 _ _ cx
    have cy2 := Below.keeps b2 _ _ cy
    have bw2 := bw1.trans (b2.mono bw1.size)
    have r2 := r1.below b2 (by omega)
    have y02 : w.heap.size < w2.heap.size := by omega
    obtain ⟨W4, HW4⟩ : ∃ W, Hid (W = w2.alloc (.cells #[.slice al ps.length cl] 35)) := ⟨_, rfl⟩
    have b4 : Below w2.heap.size w2 W4 := by rw [HW4.out]; exact (Below.refl _ _).alloc (Nat.le_refl _) _
    have c4 : W4.cell? ⟨w2.heap.size, 0, none⟩ = some (.slice al ps.length cl) := by rw [HW4.out]; exact cell_alloc0 _ _ _
    have HS4 : Hid (W4.heap.size = w2.heap.size + 1) := Lib.hid (by rw [HW4.out]; simp)
    have s4 : w2.heap.size + 1 ≤ W4.heap.size := by have := HS4.out; omega
    have cx4 := Below.keeps b4 _ _ cx2
    have cy4 := Below.keeps b4 _ _ cy2
    have bw4 := bw2.trans (b4.mono bw2.size)
    have r4 := r2.below b4 (by omega)
    have IL4 := IL.keep (Below.keeps b4)
    have IP4 := hk2.out W4 bw4
    have y04 : w.heap.size < W4.heap.size := by omega
    clear cx cy bw1 bw2 r1 r2 b2 b4 OL IL
    have HSORT : Hid (∀ (wr : World) (a : Option Addr) (c : Nat), Below W4.heap.size W4 wr → OwnI tInt wr W4.heap.size wr.heap.size (.slice a ps.length c) (upto ps.length) →
      Calls Try.prog 18 #[.slice a ps.length c, .func (.func 19) #[] #[.pointer (some ⟨w2.heap.size, 0, none⟩), .pointer (some ⟨w.heap.size, 0, none⟩)]] wr (OrdEnd ps a W4.heap.size wr)) :=
      Lib.hid fun wr a c hb hO => sortOrd N ps HP0.out W4 wr w2.heap.size w.heap.size c a al ao cl cap hb c4 IL4 cy4 IP4 hO
    have HCX := Lib.hid cx4
    have HCY := Lib.hid cy4
    have HR4 := Lib.hid r4
    have HBW := Lib.hid bw4
    clear IL4 IP4 c4 r4 bw4 cx4
    go_wp2
    rw [← HW4.out]
    clear HW4 cx2 cy2
    go_loopw [5, 20] (fun o i wr => ∃ k : Nat, k ≤ ps.length ∧ i = .int .i64 k ∧ OwnI tInt wr W4.heap.size wr.heap.size o (upto k) ∧ Below W4.heap.size W4 wr) (fun _ i _ => ps.length - (intOf i).toNat)
    case atStart => exact ⟨0, Nat.zero_le _, rfl, by rw [show w2.heap.size + 1 = W4.heap.size from HS4.out.symm]; exact OwnI.lit0 3 W4 W4.heap.size (Nat.le_refl _), (Below.refl _ _).alloc (Nat.le_refl _) _⟩
    case round =>
      clear cy4
      obtain ⟨k, hk, rfl, hown, hb⟩ := hrel
      have hs := hb.size
      by_cases hlt : k < ps.length
      · go_wp2_with (at_builtin; refine wpList_append1 _ rfl _ _ 35 rfl 3 (.int .i64 0) 8 Try.underlying35 infoInt (by decide) rfl W4.heap.size wr.heap.size _ _ rfl (hown.1.alloc _) ⟨wr.heap.size, 0, none⟩ 1 (.int .i64 k) rfl (cell_alloc0 _ _ _) rfl ?_ ?_ ?_)
        · simp [upto_length]; omega
        · simp; omega
        · intro v' w9 hown' hg
          have R1 := OwnI.snoc hown' hown.2 (show In64 (k : Int) from WalkArith.wf_i64 (by omega))
          rw [← upto_succ] at R1
          have R2 := below_app (hb.alloc hs _) (hown.1.alloc _) hg (Nat.le_refl _) (by simp; omega)
          clear hown hown' hg hb
          go_wp2
          go_roundw
          case rel => exact ⟨k + 1, by omega, by go_num, R1, R2⟩
          case measure => simp [intOf]; omega
      · obtain rfl : k = ps.length := by omega
        obtain ⟨ax, cx, hox, _⟩ := id hown.ints
        rw [upto_length] at hox
        subst hox
        have HS := Lib.hid (HSORT.out wr ax cx hb hown)
        have HBB := Lib.hid hb
        clear hown hb HSORT
        go_wp2_with fail
        refine HS.out.mono ?_; rintro e w6 ⟨rfl, b6, hcells⟩
        rw [HSO.out] at hcells
        have HOC := Lib.hid hcells
        have b46 := HBB.out.trans b6
        have s6 := b46.size
        have HCX6 := Lib.hid ((b46.cell (p := ⟨w.heap.size, 0, none⟩) (by show w.heap.size < _; omega)).trans HCX.out)
        have HCY6 := Lib.hid ((b46.cell (p := ⟨w.heap.size, 1, none⟩) (by show w.heap.size < _; omega)).trans HCY.out)
        have cx6 := HCX6.out
        have HB6 := Lib.hid (HBW.out.trans (b46.mono (by omega)))
        have HR6 := Lib.hid (HR4.out.below b46 (by omega))
        have y06 : w.heap.size < w6.heap.size := by omega
        clear hcells HS HBB b6 HCX HCY HR4 HBW
        obtain ⟨W7, HW7⟩ : ∃ W, Hid (W = w6.alloc (.cells #[.int .i64 N, .slice none 0 0] 26)) := ⟨_, rfl⟩
        have b7 : Below w6.heap.size w6 W7 := by rw [HW7.out]; exact (Below.refl _ _).alloc (Nat.le_refl _) _
        have hN7 : NetIn w6.heap.size (w6.heap.size + 1) N [] W7 (.slice none 0 0) := by rw [HW7.out]; exact NetIn.start _ _ _
        have s7 : w6.heap.size + 1 ≤ W7.heap.size := by rw [HW7.out]; simp
        have HN7 := Lib.hid hN7
        have HB7 := Lib.hid b7
        clear hN7 b7
        go_wp2
        rw [← HW7.out]
        clear HW7 cx6
        go_loopw [36] (fun i wr => ∃ k : Nat, k ≤ ps.length ∧ i = .int .i64 k ∧ ∃ (u : Value), Hid (NetIn w6.heap.size (w6.heap.size + 1) N (rowsOf (pkL ps (so.take k))) wr u) ∧ Hid (Kept w6.heap.size (w6.heap.size + 1) W7 wr)) (fun i _ => ps.length - (intOf i).toNat)
        case atStart => exact ⟨0, Nat.zero_le _, rfl, _, HN7, Lib.hid (Kept.refl _ _ _ (by omega))⟩
        case round =>
          obtain ⟨k, hk, rfl, u, HN, HK⟩ := hrel
          have b67 : Below w6.heap.size w6 wr := HB7.out.trans HK.out.1
          have hbr : Below w.heap.size w wr := HB6.out.trans (b67.mono (by omega))
          by_cases hlt : k < ps.length
          · obtain ⟨blk, hax, ck, hbl, hbl2⟩ := HOC.out k hlt
            subst hax
            have hjl := HBD.out k (by omega)
            have d1 : wr.cell? ⟨blk, k, none⟩ = some (.int .i64 (so.getD k 0 : Nat)) := (b67.cell (p := ⟨blk, k, none⟩) hbl2).trans ck
            have d2 : wr.cell? ⟨w.heap.size, 1, none⟩ = some (.slice ao ps.length cap) := (b67.cell (p := ⟨w.heap.size, 1, none⟩) (by show w.heap.size < _; omega)).trans HCY6.out
            have hvl0 : (pkL ps (so.take k)).length ≤ 60 := by rw [pkL_length, List.length_take]; omega
            have hwr : w.heap.size < wr.heap.size := World.block_lt_of_cell? _ _ d2
            obtain ⟨j, hj⟩ : ∃ j, so.getD k 0 = j := ⟨_, rfl⟩
            rw [hj] at hjl d1
            have HD := Lib.hid (pkL_take ps so k j (by omega) hj hjl)
            obtain ⟨⟨vs, hO, hR⟩, cn, cu2, cf2, hB, hlo⟩ := HN.out
            have HO := Lib.hid hO
            have HRW := Lib.hid hR
            have HU : Hid (∀ g, g < w6.heap.size + 1 → some g ≠ u.ownBlock) := fun g hg e => by have := HO.out.lt e.symm; omega
            have hvl : vs.length ≤ 60 := by have := HRW.out.1; rw [rowsOf_length] at this; omega
            have hB2 : w6.heap.size < wr.heap.size := by omega
            clear hO hR HN ck
            have HJ := Lib.hid hj
            clear hj
            obtain ⟨b, q, x, rfl, hx, hIx⟩ := HC.out j (by rw [rowsOf_length]; exact hjl)
            have d3 := Below.keeps hbr _ _ hx
            rw [rowsOf_get ps j hjl] at hIx
            have HX : Hid (∀ W, Below wr.heap.size wr W → Ints W x [(ps[j].1 : Int), (ps[j].2 : Int)]) := Lib.hid fun W hW => hIx.keep fun a y ha => Below.keeps hW _ _ (Below.keeps hbr _ _ ha)
            obtain ⟨ax2, lx, cx2, hxv⟩ : ∃ a l c, x = .slice a l c := by obtain ⟨a, c, e, _⟩ := hIx; exact ⟨_, _, _, e⟩
            subst hxv
            have hbw : b < w.heap.size := World.block_lt_of_cell? w _ hx
            have q4 : (k : Int) < (ps.length : Int) := by omega
            have q5 : (j : Int) < (ps.length : Int) := by omega
            clear hx hIx
            go_wp2
            rw [show Op.load 22 (Operand.tmp 40) = ldOp 22 (Operand.tmp 40) from rfl, show Op.load 22 (Operand.tmp 42) = ldOp 22 (Operand.tmp 42) from rfl, show Op.load 35 (Operand.tmp 45) = ldOp 35 (Operand.tmp 45) from rfl]
            go_region_held3 (fun w' => True) (trivial) ((first
              | (go_at_call 23; refine (cloneI _ [(ps[j].1 : Int), (ps[j].2 : Int)] _ (HX.out _ ((Below.refl _ wr).drew)) (by simp) (by simp)).mono ?_; rintro e w3 ⟨v2, rfl, R2, b9⟩; have b2 : Below wr.heap.size wr w3 := (Below.refl _ wr).drew.trans b9; clear b9; obtain ⟨a2, l2, cp2, hv2⟩ := R2.shape; subst hv2; have s2 := b2.size; have k1 := Below.keeps b2 _ _ cu2; have k2 := (b2.frozen (p := ⟨w6.heap.size, 1, none⟩) hB2).trans cf2; have k3 : w6.heap.size < w3.heap.size := Nat.lt_of_lt_of_le hB2 s2)
              | (refine step_append_lies _ (by rfl) (.tmp 41) (.tmp 48) 22 (by rfl) (w6.heap.size + 1) tInts i0 (.slice none 0 0) 1 24 Try.underlying22 hi hz0 hz1 hz2 rfl (by decide) u vs.length vs (by simp [Act.eval]) (by exact ((HO.out.below b2 (Nat.le_refl _)).1.alloc _)) ⟨w3.heap.size, 0, none⟩ 1 1 [.slice a2 l2 cp2] (by simp [Act.eval]) (by rfl) (by exact news_one _ _ _) (by simp [Value.oneCell']) (by decide) (by unfold maxLen; omega) (by omega) (by simp; omega) (w3.heap.size + 1) (by simp) ?_; intro g cap2 w9 hown hgrow hat hlt2; have zz := after_new (b2.alloc (by exact b2.size) _) hgrow cu2 cf2 (HU.out _ (by first | (simp; done) | (simp; omega))); obtain ⟨z1, z2⟩ := zz)
              | fail))
            all_goals
              obtain ⟨P, Q⟩ := NetIn.push (n := (N : Int)) HO.out HRW.out cn cu2 cf2 hB hlo (b2.alloc (by exact b2.size) _) ((R2.below ((Below.refl _ _).alloc (Nat.le_refl _) _) (Nat.le_refl _)).wide (by exact Nat.le_refl _) (by simp)) (by simp) hown hgrow HK.out
              rw [← HD.out] at P
              clear hown hgrow hat hlt2 z1 z2 HO HRW R2 b2 k1 k2 k3
              go_wp2
              go_roundw
              case rel => exact ⟨k + 1, by omega, by go_num, _, Lib.hid P, Lib.hid Q⟩
              case measure => simp [intOf]; omega
          · obtain rfl : k = ps.length := by omega
            obtain ⟨hR, cn, cu, cf, hB, hlo⟩ := HN.out
            rw [List.take_of_length_le (by omega)] at hR
            obtain ⟨d0, d1, f0, f1, _⟩ := HR6.out.below b67 (by omega)
            obtain ⟨a5, l5, c5, hu⟩ := hR.shape
            subst hu
            obtain ⟨RR, BB⟩ := hR.res (R := w.heap.size + 1) (x := .int .i64 (N : Int)) (y := .slice a5 l5 c5) (by omega) hbr (by omega)
            clear hR HN HK
            go_wp2
            exact bodyPost_ret (v := .tuple #[.agg #[.int .i64 (N : Int), .slice a5 l5 c5], .bool true]) (by simp [results, Try.results7, go_sem, d0, d1]) rfl ⟨_, rfl, RR, BB⟩
  · have hts := tf_no hS
    rw [nbN_no hS, nbR_no hS, hts]
    obtain ⟨ao, cap, hv, _⟩ := id h
    subst hv
    go_enter Try.func7, Try.ntmps7
    go_wp2_with fail
    refine (implNetworkOk _ _ rows _ (hk.out _ (((Below.refl _ _).alloc (Nat.le_refl _) _).alloc (by simp) _))).mono ?_; rintro e w1 ⟨rfl, b1⟩
    rw [hts]
    have r1 := (ResC.start (w.alloc (.cells #[.int .i64 n, .slice ao rows.length cap] 26)) 26).below b1 (by simp)
    rw [World.size_alloc] at r1
    have bw1 : Below w.heap.size w w1 := (((Below.refl _ _).alloc (Nat.le_refl _) _).alloc (by simp) _).trans (b1.mono (by simp; omega))
    have s1 : w.heap.size + 2 ≤ w1.heap.size := by have := b1.size; simpa using this
    have y1 : w.heap.size < w1.heap.size := by omega
    have y2 : w.heap.size + 1 < w1.heap.size := by omega
    obtain ⟨d0, d1, f0, f1, _⟩ := r1
    go_wp2
    exact bodyPost_ret (v := .tuple #[.agg #[.int .i64 0, .slice none 0 0], .bool false]) (by simp [results, Try.results7, go_sem, d0, d1]) rfl ⟨_, rfl, OwnSS.nil _ _ _ _ _, ((bw1).setCell (by simp) _).setCell (by simp) _⟩
end Go.Proofs.Ythcnmaapcniehaa
