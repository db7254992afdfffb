/- Contracts: KnownOrder, the program's. -/
import Derived.Test.YtldhbbbkfnfhoaaKnown
import Derived.Lib.LazyBuf
namespace Go.Proofs.Ytldhbbbkfnfhoaa
open Go.RowKit
set_option linter.unusedVariables false

theorem boxI_cell {w : World} {lo hi g : Nat} {x : Int} (h : OwnI tInt w lo hi (.slice (some ⟨g, 0, none⟩) 1 1) [x]) : w.cell? ⟨g, 0, none⟩ = some (.int .i64 x) ∧ g < w.heap.size := by
  obtain ⟨ao, cap, hv, _, _, _, hc⟩ := h.ints
  simp only [Value.slice.injEq] at hv
  obtain ⟨b, o, u, e1, e2, e3, _⟩ := hc 0 (by simp)
  rw [← hv.1] at e1
  simp only [Option.some.injEq, Addr.mk.injEq] at e1
  obtain ⟨rfl, rfl, _⟩ := e1
  subst e3
  exact ⟨by simpa using e2, World.block_lt_of_cell? w _ (by simpa using e2)⟩
theorem boxI_new (w : World) (x : Int) (hx : In64 x) : OwnI tInt (w.alloc (.cells #[.int .i64 x] tInt)) w.heap.size (w.alloc (.cells #[.int .i64 x] tInt)).heap.size (.slice (some ⟨w.heap.size, 0, none⟩) 1 1) [x] :=
  (Fills.lit tInt w w.heap.size [x] #[.int .i64 x] rfl (Nat.le_refl _) (by simp [maxLen])).own (by simp) (by intro y hy; rw [List.mem_singleton] at hy; rw [hy]; exact hx)
def BadS (xs : List Int) (i k : Nat) : Prop := ∃ m ∈ xs, BadM i k m
theorem koP_iff {xs : List Int} {i k : Nat} (h : i ≠ k) : tf (KoP xs i k) = !tf (BadS xs i k) := by
  rcases Classical.em (BadS xs i k) with hb | hb
  · rw [tf_yes hb, tf_no (fun hk => by obtain ⟨m, hm, hx⟩ := hb; exact hk.2 m hm hx)]; rfl
  · rw [tf_no hb, tf_yes ⟨h, fun m hm hx => hb ⟨m, hm, hx⟩⟩]; rfl

set_option maxHeartbeats 800000 in
theorem closKn (m i k g5 g6 : Nat) (w : World) (hm : m < 256) (hi : i < 8) (hk : k < 8) (c5 : w.cell? ⟨g5, 0, none⟩ = some (.int .i64 i)) (c6 : w.cell? ⟨g6, 0, none⟩ = some (.int .i64 k)) :
    Calls Try.prog 40 #[.int .i64 m, .pointer (some ⟨g5, 0, none⟩), .pointer (some ⟨g6, 0, none⟩)] w fun e w' => e = .returned (.bool (tf (BadM i k (m : Int)))) ∧ w = w' := by
  have z1 := bit_eq m i hm hi
  have z2 := bit_eq m k hm hk
  have hwi := wrap_pow i (by omega)
  have hwk := wrap_pow k (by omega)
  rcases Nat.mod_two_eq_zero_or_one (m / 2 ^ i) with y1 | y1
  · have R := Lib.hid (tf_no (p := BadM i k (m : Int)) (by unfold BadM; rw [Int.toNat_natCast]; omega))
    rw [y1] at z1
    clear y1
    go_enter Try.func40, Try.ntmps40
    go_wp2
    go_ret
    exact ⟨ret_bool R.out.symm, rfl⟩
  · rcases Nat.mod_two_eq_zero_or_one (m / 2 ^ k) with y2 | y2
    · have R := Lib.hid (tf_yes (p := BadM i k (m : Int)) (by unfold BadM; rw [Int.toNat_natCast]; exact ⟨y1, y2⟩))
      rw [y1] at z1
      rw [y2] at z2
      clear y1 y2
      go_enter Try.func40, Try.ntmps40
      go_wp2
      go_ret
      exact ⟨ret_bool R.out.symm, rfl⟩
    · have R := Lib.hid (tf_no (p := BadM i k (m : Int)) (by unfold BadM; rw [Int.toNat_natCast]; omega))
      rw [y1] at z1
      rw [y2] at z2
      clear y1 y2
      go_enter Try.func40, Try.ntmps40
      go_wp2
      go_ret
      exact ⟨ret_bool R.out.symm, rfl⟩
set_option maxHeartbeats 800000 in
theorem idxKn (v : Value) (xs : List Int) (i k g5 g6 : Nat) (w : World) (h : Ints w v xs) (hX : InM 256 xs) (hi : i < 8) (hk : k < 8) (c5 : w.cell? ⟨g5, 0, none⟩ = some (.int .i64 i)) (c6 : w.cell? ⟨g6, 0, none⟩ = some (.int .i64 k)) :
    Calls Try.prog 57 #[v, .func (.func 40) #[] #[.pointer (some ⟨g5, 0, none⟩), .pointer (some ⟨g6, 0, none⟩)]] w fun e w' => ∃ z : Int, e = .returned (.int .i64 z) ∧ Hid (0 ≤ z ↔ BadS xs i k) ∧ w = w' := by
  obtain ⟨ao, cap, rfl, hcap, hmax, hnil, hcell⟩ := h
  have HC := Lib.hid hcell; clear hcell
  have HX := Lib.hid hX; clear hX
  unfold maxLen at hmax
  have HCl := Lib.hid (fun m hm => closKn m i k g5 g6 w hm hi hk c5 c6)
  clear c5 c6
  go_enter Try.func57, Try.ntmps57
  go_wp2
  go_loop [8] (fun q => ∃ j : Nat, j ≤ xs.length ∧ q = .int .i64 j ∧ Hid (∀ t (ht : t < xs.length), t < j → ¬ BadM i k xs[t])) (fun q => xs.length - (intOf q).toNat)
  case atStart => exact ⟨0, Nat.zero_le _, rfl, Lib.hid (fun t _ ht => by omega)⟩
  case round =>
    obtain ⟨j, hj9, rfl, HN⟩ := hrel
    by_cases hlt : j < xs.length
    · obtain ⟨b, o, uu, rfl, hu, hux, _⟩ := HC.out j hlt
      obtain ⟨mI, hmI, hmB⟩ : ∃ m : Nat, xs[j] = (m : Int) ∧ m < 256 := by
        have := HX.out xs[j] (List.getElem_mem ..)
        exact ⟨xs[j].toNat, by omega, by omega⟩
      rw [hux, hmI] at hu
      have HM := Lib.hid hmI
      clear hux hmI
      rcases Classical.em (BadM i k (mI : Int)) with hP | hP
      · have ht : tf (BadM i k (mI : Int)) = true := tf_yes hP
        have HCC := Lib.hid (HCl.out mI hmB)
        rw [ht] at HCC
        have HS : Hid (0 ≤ (j : Int) ↔ BadS xs i k) := ⟨fun _ => ⟨xs[j], List.getElem_mem .., by rw [HM.out]; exact hP⟩, fun _ => by omega⟩
        clear hP ht
        go_wp2_with (go_at_call 40; refine HCC.out.mono ?_; rintro e w2 ⟨rfl, rfl⟩)
        go_ret
        exact ⟨_, rfl, HS, rfl⟩
      · have ht : tf (BadM i k (mI : Int)) = false := tf_no hP
        have HCC := Lib.hid (HCl.out mI hmB)
        rw [ht] at HCC
        have HS : Hid (∀ t (ht : t < xs.length), t < j + 1 → ¬ BadM i k xs[t]) := by
          intro t h1 h2
          rcases Nat.lt_or_ge t j with hh | hh
          · exact HN.out t h1 hh
          · obtain rfl : t = j := by omega
            rw [HM.out]; exact hP
        clear hP ht
        go_wp2_with (go_at_call 40; refine HCC.out.mono ?_; rintro e w2 ⟨rfl, rfl⟩)
        go_round
        case rel => exact ⟨j + 1, by omega, by go_num, HS⟩
        case measure => simp [intOf]; omega
    · have HS : Hid (0 ≤ (-1 : Int) ↔ BadS xs i k) := ⟨fun hh => by omega, fun ⟨m, hm, hx⟩ => by
        obtain ⟨t, ht, rfl⟩ := List.getElem_of_mem hm
        exact absurd hx (HN.out t ht (by omega))⟩
      go_wp2
      go_ret
      exact ⟨_, rfl, HS, rfl⟩
theorem hasKn (v : Value) (xs : List Int) (i k g5 g6 : Nat) (w : World) (h : Ints w v xs) (hX : InM 256 xs) (hi : i < 8) (hk : k < 8) (c5 : w.cell? ⟨g5, 0, none⟩ = some (.int .i64 i)) (c6 : w.cell? ⟨g6, 0, none⟩ = some (.int .i64 k)) :
    Calls Try.prog 39 #[v, .func (.func 40) #[] #[.pointer (some ⟨g5, 0, none⟩), .pointer (some ⟨g6, 0, none⟩)]] w fun e w' => e = .returned (.bool (tf (BadS xs i k))) ∧ w = w' := by
  have HI := Lib.hid (idxKn v xs i k g5 g6 w h hX hi hk c5 c6)
  obtain ⟨ao, cap, hv, _⟩ := h
  subst hv
  clear hX c5 c6
  go_enter Try.func39, Try.ntmps39
  go_wp2_with (go_at_call 57; refine HI.out.mono ?_; rintro e w2 ⟨zz, rfl, HZ, rfl⟩)
  have HE : Hid (tf (BadS xs i k) = decide (0 ≤ zz)) := (tf_congr HZ.out.symm).trans tf_dec
  go_ret
  exact ⟨ret_bool (by rw [HE.out]), rfl⟩
set_option maxHeartbeats 4000000 in
set_option maxRecDepth 100000 in
theorem implKnownOrder (n : Int) (v : Value) (rows : List (List Int)) (w : World) (hn : (Lit.int .i64 n).wf = true) (h : IntSS w v rows) (hl : rows.length + sumLen rows ≤ 1048576) :
    Calls Try.prog 18 #[.agg #[.int .i64 n, v]] w (GivesSS w (koN n rows)) := by
  have hk : Hid (∀ W, Below w.heap.size w W → IntSS W v rows) := fun W hb => h.keep (Below.keeps hb)
  have HRN : Hid (¬ NetP n rows → ∀ W, Below w.heap.size w W → Calls Try.prog 5 #[.agg #[.int .i64 n, v]] W fun e w' => e = .returned (.slice none 0 0) ∧ Below W.heap.size W w') := fun hN W hb => implResultsOf_no n v rows W (hk.out W hb) hN
  have HRS : Hid (∀ W, Below w.heap.size w W → Calls Try.prog 5 #[.agg #[.int .i64 n, v]] W (GivesI W (resN n rows))) := fun W hb => implResultsOf n v rows W hn (hk.out W hb) hl
  obtain ⟨ao, cap, hv, _⟩ := h
  have ba : Below w.heap.size w (w.alloc (.cells #[.int .i64 n, .slice ao rows.length cap] 25)) := (Below.refl _ _).alloc (Nat.le_refl _) _
  clear hn hl
  subst hv
  rcases Classical.em (NetP n rows) with hN | hN
  · have HE : Hid (koN n rows = koOut (resN n rows) n.toNat n.toNat) := nbR_yes hN
    rw [HE.out]
    have hlen := resN_le n rows
    have hne := resN_some hN
    have HX := Lib.hid (resN_in n rows)
    obtain ⟨N, rfl, hr, hp⟩ := hN.pairs
    rw [Int.toNat_natCast]
    have hN8 : N ≤ 8 := hp.2.1
    generalize resN N rows = xs at *
    have hNN : N * N ≤ 64 := Nat.mul_le_mul hN8 hN8
    have hlen0 : 0 < xs.length := List.length_pos_iff.2 hne
    clear hN hp hr HE HRN hne
    obtain ⟨i0, hi, hz0, hz1, hz2⟩ := info_parts infoInts
    obtain ⟨w1, HW1⟩ : ∃ W, Hid (W = w.alloc (.cells #[.int .i64 N, .slice ao rows.length cap] 25)) := ⟨_, rfl⟩
    have cx : w1.cell? ⟨w.heap.size, 0, none⟩ = some (.int .i64 N) := by rw [HW1.out]; simp [go_sem]
    have cy : w1.cell? ⟨w.heap.size, 1, none⟩ = some (.slice ao rows.length cap) := by rw [HW1.out]; simp [go_sem]
    have bw : Below w.heap.size w w1 := by rw [HW1.out]; exact ba
    have hw1 : w.heap.size < w1.heap.size := World.block_lt_of_cell? w1 _ cx
    have HS1 : Hid (w1.heap.size = w.heap.size + 1) := by show _ = _; rw [HW1.out]; simp
    have hnil := fun (W : World) (a : Option Addr) (l c : Nat) => Lib.run_eql_slice_nil (P := Try.prog) W 27 3 a l c 0 0 Try.underlying27
    go_enter Try.func18, Try.ntmps18
    go_wp2_with fail
    rw [← HW1.out]
    clear HW1
    refine (HRS.out _ (bw.alloc (by omega) _)).mono ?_; rintro e w2 ⟨u2, rfl, R2, b2⟩
    obtain ⟨aS, caps, hus, _, hmaxs, _, hcells⟩ := R2.ints
    obtain ⟨bS, oS, _, hsome, _⟩ := hcells 0 hlen0
    subst hus
    subst hsome
    have bA : Below w1.heap.size w1 w2 := ((Below.refl _ w1).alloc (Nat.le_refl _) (.cells #[] 27)).trans (b2.mono (by simp))
    have hO2 : OwnSS tInt tInts w2 w1.heap.size w2.heap.size (.slice (some ⟨w1.heap.size, 0, none⟩) 0 0) [] := ((OwnSS.lit0 tInt tInts w1 w1.heap.size (Nat.le_refl _)).below b2 (Nat.le_refl _)).wide (Nat.le_refl _) b2.size
    have hO2 : OwnSS tInt tInts w2 w1.heap.size w2.heap.size (.slice (some ⟨w.heap.size + 1, 0, none⟩) 0 0) [] := by rw [← HS1.out]; exact hO2
    rw [World.size_alloc] at R2 b2
    have s2 := bA.size
    clear HS1
    unfold maxLen at hmaxs
    clear hcells b2
    have R2 := R2.wide (lo' := w1.heap.size) (by omega) (Nat.le_refl _)
    have cx2 := Below.keeps bA _ _ cx
    go_wp2
    clear hnil
    go_loopw [3, 14] (fun o i wr => ∃ k : Nat, k ≤ N ∧ i = .int .i64 k ∧ Hid (OwnSS tInt tInts wr w1.heap.size wr.heap.size o (koOut xs N k)) ∧ Hid (OwnI tInt wr w1.heap.size wr.heap.size (.slice (some ⟨bS, oS, none⟩) xs.length caps) xs) ∧ Below w1.heap.size w1 wr) (fun _ i _ => N - (intOf i).toNat)
    case atStart => exact ⟨0, Nat.zero_le _, rfl, Lib.hid hO2, Lib.hid R2, bA⟩
    case round =>
      obtain ⟨i, hi9, rfl, HO, HS, hb⟩ := hrel
      clear hO2 R2 bA s2 cx2
      have cx2 := Below.keeps hb _ _ cx
      by_cases hlt : i < N
      · have HI1 : Hid (koOut xs N (i + 1) = koOut xs N i ++ koIn xs i N) := rfl
        have HI0 : Hid (koOut xs N i = koOut xs N i ++ koIn xs i 0) := by show _ = _; simp [koIn]
        have hil := koOut_le xs N i
        have hi64 : i * N ≤ 56 := Nat.mul_le_mul (show i ≤ 7 by omega) hN8
        have hi8 : i < 8 := by omega
        rw [HI0.out] at HO
        clear HI0
        have hsr := hb.size
        obtain ⟨wI, HWI⟩ : ∃ W, Hid (W = wr.alloc (.cells #[.int .i64 (i : Int)] tInt)) := ⟨_, rfl⟩
        have bI : Below wr.heap.size wr wI := by rw [HWI.out]; exact (Below.refl _ _).alloc (Nat.le_refl _) _
        have HBI : Hid (OwnI tInt wI w1.heap.size wI.heap.size (.slice (some ⟨wr.heap.size, 0, none⟩) 1 1) [(i : Int)]) := by
          rw [HWI.out]; exact (boxI_new wr i (WalkArith.wf_i64 (by omega))).wide hsr (Nat.le_refl _)
        have HO1 := Lib.hid ((HO.out.below bI (Nat.le_refl _)).wide (Nat.le_refl _) bI.size)
        have HS1 := Lib.hid ((HS.out.below bI (Nat.le_refl _)).wide (Nat.le_refl _) bI.size)
        have hb1 := hb.trans (bI.mono hsr)
        have cx4 := Below.keeps hb1 _ _ cx
        have hwr : w.heap.size < wr.heap.size := by omega
        clear HO HS hb
        go_wp2
        rw [← HWI.out]
        have hsI : w1.heap.size ≤ wr.heap.size := hsr
        obtain ⟨wo, rfl⟩ : ∃ wo : World, wo = wr := ⟨_, rfl⟩
        clear HWI bI
        go_loopw [3, 19] (fun o j wt => ∃ k : Nat, k ≤ N ∧ j = .int .i64 k ∧ Hid (OwnSS tInt tInts wt w1.heap.size wt.heap.size o (koOut xs N i ++ koIn xs i k)) ∧ Hid (OwnI tInt wt w1.heap.size wt.heap.size (.slice (some ⟨bS, oS, none⟩) xs.length caps) xs) ∧ Hid (OwnI tInt wt w1.heap.size wt.heap.size (.slice (some ⟨wo.heap.size, 0, none⟩) 1 1) [(i : Int)]) ∧ Below w1.heap.size w1 wt) (fun _ j _ => N - (intOf j).toNat)
        case atStart => exact ⟨0, Nat.zero_le _, rfl, HO1, HS1, HBI, hb1⟩
        case round =>
          clear HO1 HS1 HBI hb1 cx2 cx4
          obtain ⟨k, hk9, rfl, HO, HS, HB, hb⟩ := hrel
          have cx3 := Below.keeps hb _ _ cx
          have hs3 := hb.size
          by_cases hltk : k < N
          · have hk8 : k < 8 := by omega
            have hil2 := koIn_le xs i k
            obtain ⟨wK, HWK⟩ : ∃ W, Hid (W = wr.alloc (.cells #[.int .i64 (k : Int)] tInt)) := ⟨_, rfl⟩
            have bK : Below wr.heap.size wr wK := by rw [HWK.out]; exact (Below.refl _ _).alloc (Nat.le_refl _) _
            have c6 : wK.cell? ⟨wr.heap.size, 0, none⟩ = some (.int .i64 k) := by rw [HWK.out]; exact cell_alloc0 _ _ _
            have c50 := (boxI_cell HB.out).1
            have hlo := (boxI_cell HB.out).2
            have HO1 := Lib.hid ((HO.out.below bK (Nat.le_refl _)).wide (Nat.le_refl _) bK.size)
            have HS1 := Lib.hid ((HS.out.below bK (Nat.le_refl _)).wide (Nat.le_refl _) bK.size)
            have HB1 := Lib.hid ((HB.out.below bK (Nat.le_refl _)).wide (Nat.le_refl _) bK.size)
            have c5 : wK.cell? ⟨wo.heap.size, 0, none⟩ = some (.int .i64 i) := (boxI_cell HB1.out).1
            have hb1 := hb.trans (bK.mono hs3)
            have hsK : w1.heap.size ≤ wK.heap.size := hb1.size
            have hr1 : w.heap.size < wr.heap.size := by omega
            clear HO HS HB hb bK
            by_cases hik : i = k
            · have hne : ((i : Int) != (k : Int)) = false := by simp [hik]
              have HE2 := Lib.hid (koIn_no (xs := xs) (i := i) (k := k) (fun h => h.1 hik))
              rw [← HE2.out] at HO1
              clear hik
              go_wp2_with fail
              rw [← HWK.out]
              go_roundw
              case rel => exact ⟨k + 1, by omega, by go_num, HO1, HS1, HB1, hb1⟩
              case measure => simp [intOf]; omega
            · have hne : ((i : Int) != (k : Int)) = true := by
                have : ¬ ((i : Int) = (k : Int)) := by omega
                simp [this]
              have HCC := Lib.hid (hasKn _ xs i k wo.heap.size wr.heap.size wK HS1.out.ints HX.out hi8 hk8 c5 c6)
              have hkp := koP_iff (xs := xs) hik
              rcases Classical.em (BadS xs i k) with hBd | hBd
              · rw [tf_yes hBd] at HCC hkp
                have HE2 := Lib.hid (koIn_no (xs := xs) (i := i) (k := k) (tf_false hkp))
                rw [← HE2.out] at HO1
                clear hik hBd hkp
                go_wp2_with fail
                rw [← HWK.out]
                go_wp2_with (go_at_call 39; refine HCC.out.mono ?_; rintro e w3 ⟨rfl, rfl⟩)
                go_roundw
                case rel => exact ⟨k + 1, by omega, by go_num, HO1, HS1, HB1, hb1⟩
                case measure => simp [intOf]; omega
              · rw [tf_no hBd] at HCC hkp
                have HE2 := Lib.hid (koIn_yes (xs := xs) (i := i) (k := k) (tf_true hkp))
                obtain ⟨vs, hO, hR⟩ := HO1.out
                have hvl : vs.length ≤ 64 := by have := hR.1; rw [List.length_append] at this; omega
                have HRR := Lib.hid hR
                clear hik hBd hkp hR HO1
                go_wp2_with fail
                rw [← HWK.out]
                refine HCC.out.mono ?_; rintro e w3 ⟨rfl, rfl⟩
                go_wp2_with (at_builtin; refine wpList_append1_at _ rfl _ _ 23 rfl tInts (.slice none 0 0) 24 Try.underlying23 infoInts (by decide) rfl w1.heap.size wK.heap.size _ vs rfl ((hO.alloc _).alloc _) ⟨wK.heap.size + 1, 0, none⟩ 1 (.slice (some ⟨wK.heap.size, 0, none⟩) 2 2) rfl (by simp) rfl ?_ ?_ ?_)
                · omega
                · first | omega | exact Nat.le_trans hsK (kn_below wK _ _).size | (simp; omega)
                · intro v' w4 hown' hgr hat
                  have bN := kn_below wK (.cells #[.int .i64 i, .int .i64 k] tInt) (.cells #[.slice (some ⟨wK.heap.size, 0, none⟩) 2 2] tInts)
                  have R1 := OwnSS.app hO HRR.out (kn_below _ _ _) (kn_pair wK i k (WalkArith.wf_i64 (by omega)) (WalkArith.wf_i64 (by omega)) _) (by omega) hown' hgr
                  have R2 := below_app (hb1.trans (bN.mono hsK)) ((hO.alloc _).alloc _) hgr (Nat.le_refl _) (Nat.le_trans hsK bN.size)
                  have R3 := (OwnI.grownX (HS1.out.below bN (Nat.le_refl _)) ((hO.alloc _).alloc _) hgr).wide (Nat.le_refl _) (Nat.le_trans bN.size hgr.size)
                  have R4 := (OwnI.grownX (HB1.out.below bN (Nat.le_refl _)) ((hO.alloc _).alloc _) hgr).wide (Nat.le_refl _) (Nat.le_trans bN.size hgr.size)
                  rw [List.append_assoc, ← HE2.out] at R1
                  have HO2 := Lib.hid R1
                  have HS2 := Lib.hid R3
                  have HB2 := Lib.hid R4
                  clear hO HRR hown' hgr hat R1 R3 R4 HS1 HB1 bN
                  go_wp2
                  go_roundw
                  case rel => exact ⟨k + 1, by omega, by go_num, HO2, HS2, HB2, R2⟩
                  case measure => simp [intOf]; omega
          · obtain rfl : k = N := by omega
            rw [← HI1.out] at HO
            go_wp2
            go_roundw
            case rel => exact ⟨i + 1, by omega, by go_num, HO, HS, hb⟩
            case measure => simp [intOf]; omega
      · obtain rfl : i = N := by omega
        have R := HO.out
        have hs := hb.size
        clear HO HS
        go_wp2
        go_ret
        exact ⟨_, rfl, R.wide (by omega) (Nat.le_refl _), bw.trans (hb.mono (by omega))⟩
  · have HE : Hid (koN n rows = []) := nbR_no hN
    rw [HE.out]
    have HRN2 := Lib.hid (HRN.out hN)
    clear hN HRS HRN
    have hnil := fun (W : World) (a : Option Addr) (l c : Nat) => Lib.run_eql_slice_nil (P := Try.prog) W 27 3 a l c 0 0 Try.underlying27
    go_enter Try.func18, Try.ntmps18
    go_wp2_with fail
    refine (HRN2.out _ (ba.alloc (by simp) _)).mono ?_; rintro e w1 ⟨rfl, b1⟩
    have bw := (ba.alloc (by simp) (.cells #[] 27)).trans (b1.mono (by simp; omega))
    go_wp2
    go_ret
    exact ⟨_, rfl, OwnSS.nil _ _ _ _ _, bw⟩
end Go.Proofs.Ytldhbbbkfnfhoaa
