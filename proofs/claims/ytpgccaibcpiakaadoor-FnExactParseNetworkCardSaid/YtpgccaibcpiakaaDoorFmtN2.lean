/- Contracts: FormatNetwork, the program's. -/
import Derived.Test.YtpgccaibcpiakaaDoorFmtN
import Derived.Test.YtpgccaibcpiakaaDoorItoa
namespace Go.Proofs.YtpgccaibcpiakaaDoor
open Go.RowKit
set_option linter.unusedVariables false

set_option maxHeartbeats 1600000 in
set_option maxRecDepth 100000 in
theorem implFormatNetwork' (n : Int) (v : Value) (rows : List (List Int)) (w : World) (hn : (Lit.int .i64 n).wf = true) (h : IntSS w v rows) :
    Calls Tryd.prog 21 #[.agg #[.int .i64 n, v]] w (GivesT w (fmtT n rows)) := by
  have hk : Hid (∀ W, Below w.heap.size w W → IntSS W v rows) := fun W hb => h.keep (Below.keeps hb)
  obtain ⟨ao, cap, hv, _⟩ := id h
  have ba : Below w.heap.size w (w.alloc (.cells #[.int .i64 n, .slice ao rows.length cap] 27)) := (Below.refl _ _).alloc (Nat.le_refl _) _
  clear hn
  rcases Classical.em (NetP n rows) with hN | hN
  · have ht := tf_yes hN
    have hN0 := hN
    obtain ⟨N, rfl, hr, hp⟩ := hN.pairs
    have HE := Lib.hid (fmtT_yes hN0)
    rw [HE.out]
    have HP := Lib.hid hp
    have hpl : rows.length = (pairsOf rows).length := by rw [pairsOf, List.length_map]
    have hI : IntSS w v (rowsOf (pairsOf rows)) := by rw [← hr]; exact h
    obtain ⟨ao', cap', hv', _, hmax, hnil, hcell⟩ := pairs_open hI
    subst hv
    simp only [Value.slice.injEq] at hv'
    obtain ⟨q1, -, q2⟩ := hv'
    subst q1; subst q2
    rw [hpl] at hk ba ⊢
    have HC := Lib.hid hcell
    have hN8 := hp.2.1
    unfold maxLen at hmax
    have h60 : (pairsOf rows).length ≤ 60 := hp.2.2.1
    have HF := Lib.hid (fun W => implFormatInt_small N W (by omega))
    clear hN0 hN hp hr hcell hI hnil hpl h HE
    generalize pairsOf rows = ps at *
    go_enter Tryd.func21, Tryd.ntmps21
    go_wp2_with fail
    refine (implNetworkOk _ _ rows _ (hk.out _ ba)).mono ?_; rintro e w1 ⟨rfl, b1⟩
    rw [ht]
    have cx : w1.cell? ⟨w.heap.size, 0, none⟩ = some (.int .i64 N) := Below.keeps b1 _ _ (by simp [go_sem])
    have cy : w1.cell? ⟨w.heap.size, 1, none⟩ = some (.slice ao ps.length cap) := Below.keeps b1 _ _ (by simp [go_sem])
    have bw := ba.trans (b1.mono ba.size)
    have z1 := itoaB_size1 (k := N) (by omega)
    clear b1
    go_wp2_with fail
    refine (HF.out _).mono ?_; rintro e w2 ⟨rfl, b2⟩
    have cy2 := Below.keeps b2 _ _ cy
    have cx2 := Below.keeps b2 _ _ cx
    have bw2 := bw.trans (b2.mono bw.size)
    clear b2 bw cx cy HF
    go_wp2
    go_loopw [3, 16] (fun s i wr => ∃ (k : Nat) (t : ByteArray), k ≤ ps.length ∧ i = .int .i64 k ∧ s = .string t ∧ Hid (t = fmtB N (ps.take k)) ∧ Below w.heap.size w wr) (fun _ i _ => ps.length - (intOf i).toNat)
    case atStart => exact ⟨0, _, Nat.zero_le _, rfl, rfl, by show _ = _; apply bytes_eq; rw [fmtB_list]; simp [fmtL, itoaB_list, Lib.itoa_nonneg], bw2⟩
    case round =>
      clear z1 cy2 cx2 bw2 ht
      obtain ⟨k, t, hk9, rfl, rfl, HT, hb⟩ := hrel
      by_cases hlt : k < ps.length
      · obtain ⟨b, q, x, po, pc, rfl, hu, g1, g2, d0, d1⟩ := HC.out k hlt
        have c1 := Below.keeps hb _ _ hu
        have c2 := Below.keeps hb _ _ d0
        have c3 := Below.keeps hb _ _ d1
        have hxs := World.block_lt_of_cell? wr _ c2
        unfold maxLen at g2
        have h10 := HP.out.2.2.2 k hlt
        have hts : t.size ≤ 242 := by rw [HT.out]; exact fmt_take_size HP.out k
        have y1 := itoaB_size1 (k := ps[k].1) (by omega)
        have y2 := itoaB_size1 (k := ps[k].2) (by omega)
        have HS : Hid (t ++ (⟨#[32]⟩ ++ itoaB ps[k].1 ++ ⟨#[45]⟩ ++ itoaB ps[k].2) = fmtB N (ps.take (k + 1))) := by
          show _ = _
          apply bytes_eq
          rw [fmtB_list, fmtL_snoc N ps k hlt, HT.out]
          simp [itoaB_nat, fmtB_list, fmtP]
        have HK1 : Hid (∀ x, Calls Tryd.prog 15 #[.int .i64 ps[k].1] (up wr x) fun e w' => e = .returned (.string (itoaB ps[k].1)) ∧ ∃ y, w' = up wr y) := fun x => up_calls (implFormatInt_small _ _ (by omega))
        have HK2 : Hid (∀ x, Calls Tryd.prog 15 #[.int .i64 ps[k].2] (up wr x) fun e w' => e = .returned (.string (itoaB ps[k].2)) ∧ ∃ y, w' = up wr y) := fun x => up_calls (implFormatInt_small _ _ (by omega))
        clear hu d0 d1 HT h10
        go_wp2
        refine wp_region_up_lit (by kernel_rfl) (by kernel_rfl) ?_
        repeat (go_big_quiet_step ((first | (go_at_call 15; with_reducible exact HK1.out _) | (go_at_call 15; with_reducible exact HK2.out _))))
        refine up_end ?_
        intro wq hbq
        have R := hb.trans (hbq.mono hb.size)
        clear hbq
        go_wp2
        go_roundw
        case rel => exact ⟨k + 1, _, by omega, by go_num, rfl, HS, R⟩
        case measure => simp [intOf]; omega
      · have HE : Hid (t = fmtB N ps) := by
          show _ = _
          have := HT.out
          rwa [List.take_of_length_le (by omega)] at this
        clear HT
        go_wp2
        go_ret
        exact ⟨ret_str (by rw [HE.out]), hb⟩
  · have ht := tf_no hN
    have HE := Lib.hid (fmtT_no hN)
    rw [HE.out]
    subst hv
    clear hN h
    go_enter Tryd.func21, Tryd.ntmps21
    go_wp2_with fail
    refine (implNetworkOk _ _ rows _ (hk.out _ ba)).mono ?_; rintro e w1 ⟨rfl, b1⟩
    rw [ht]
    have bw := ba.trans (b1.mono ba.size)
    go_wp2
    go_ret
    exact ⟨rfl, bw⟩
theorem implFormatNetwork (n : Int) (v : Value) (rows : List (List Int)) (w : World) (hn : (Lit.int .i64 n).wf = true) (h : IntSS w v rows) (hl : rows.length + sumLen rows ≤ 1048576) :
    Calls Tryd.prog 21 #[.agg #[.int .i64 n, v]] w (GivesT w (fmtT n rows)) := implFormatNetwork' n v rows w hn h
end Go.Proofs.YtpgccaibcpiakaaDoor
