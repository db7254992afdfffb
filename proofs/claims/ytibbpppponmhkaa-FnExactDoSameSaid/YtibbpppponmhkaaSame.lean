/- Contracts: DoSame, the program's and the reference's. -/
import Derived.Test.YtibbpppponmhkaaUns
namespace Go.Proofs.Ytibbpppponmhkaa
open Go.RowKit
set_option linter.unusedVariables false

/-- Two networks do the same. -/
def DsP (n1 : Int) (r1 : List (List Int)) (n2 : Int) (r2 : List (List Int)) : Prop := NetP n1 r1 ∧ NetP n2 r2 ∧ n1 = n2 ∧ ∀ m, m < 2 ^ n1.toNat → bitsN (pairsOf r1) m = bitsN (pairsOf r2) m

set_option maxHeartbeats 1600000 in
set_option maxRecDepth 100000 in
theorem specDoSame (n1 : Int) (v1 : Value) (r1 : List (List Int)) (n2 : Int) (v2 : Value) (r2 : List (List Int)) (w : World) (h1 : (Lit.int .i64 n1).wf = true) (I1 : IntSS w v1 r1) (hl1 : r1.length + sumLen r1 ≤ 1048576) (h2 : (Lit.int .i64 n2).wf = true) (I2 : IntSS w v2 r2) (hl2 : r2.length + sumLen r2 ≤ 1048576) :
    Calls Try.prog 25 #[.agg #[.int .i64 n1, v1], .agg #[.int .i64 n2, v2]] w (GivesB w (tf (DsP n1 r1 n2 r2))) := by
  have hk1 : Hid (∀ W, Below w.heap.size w W → IntSS W v1 r1) := fun W hb => I1.keep (Below.keeps hb)
  have hk2 : Hid (∀ W, Below w.heap.size w W → IntSS W v2 r2) := fun W hb => I2.keep (Below.keeps hb)
  obtain ⟨ao1, cap1, hv1, _⟩ := I1
  obtain ⟨ao2, cap2, hv2, _⟩ := I2
  subst hv1
  subst hv2
  clear h1 h2 hl1 hl2
  rcases Classical.em (NetP n1 r1) with hN1 | hN1
  · have ht1 := tf_yes hN1
    rcases Classical.em (NetP n2 r2) with hN2 | hN2
    · have ht2 := tf_yes hN2
      by_cases hnn : n1 = n2
      · subst hnn
        obtain ⟨N, hNN, hr1, hp1⟩ := hN1.pairs
        subst hNN
        obtain ⟨N', hNN, hr2, hp2⟩ := hN2.pairs
        have hNe : N = N' := by omega
        subst hNe
        have HP1 := Lib.hid hp1
        have HP2 := Lib.hid hp2
        have HR1 := Lib.hid hr1
        have HR2 := Lib.hid hr2
        have hN8 := hp1.2.1
        have hw := wrap_pow N hN8
        have hq := pow_le8 N hN8
        have hc := nat_pow_cast N
        have HD : Hid (DsP N r1 N r2 ↔ ∀ m, m < 2 ^ N → bitsN (pairsOf r1) m = bitsN (pairsOf r2) m) := ⟨fun h => h.2.2.2, fun h => ⟨hN1, hN2, rfl, h⟩⟩
        obtain ⟨M, HM⟩ : ∃ M : Nat, Hid (2 ^ N = M) := ⟨_, rfl⟩
        have hM : (2 : Int) ^ N = (M : Int) := by rw [← hc, HM.out]
        rw [HM.out] at HD
        rw [hM] at hw hq
        clear hN1 hN2 hp1 hp2 hr1 hr2 hc hNN
        obtain ⟨W0, HW0⟩ : ∃ W0, Hid (W0 = ((w.alloc (.cells #[.int .i64 N, .slice ao1 r1.length cap1] 28)).alloc (.cells #[.int .i64 N, .slice ao2 r2.length cap2] 28))) := ⟨_, rfl⟩
        have BB : Below w.heap.size w W0 := by rw [HW0.out]; exact ((Below.refl _ _).alloc (by simp) _).alloc (by simp) _
        have ca1 : W0.cell? ⟨w.heap.size, 0, none⟩ = some (.int .i64 N) := by rw [HW0.out]; simp [go_sem]
        have cb1 : W0.cell? ⟨w.heap.size, 1, none⟩ = some (.slice ao1 r1.length cap1) := by rw [HW0.out]; simp [go_sem]
        have ca2 : W0.cell? ⟨w.heap.size + 1, 0, none⟩ = some (.int .i64 N) := by rw [HW0.out]; simp [go_sem]
        have cb2 : W0.cell? ⟨w.heap.size + 1, 1, none⟩ = some (.slice ao2 r2.length cap2) := by rw [HW0.out]; simp [go_sem]
        have za : w.heap.size + 2 ≤ W0.heap.size := by rw [HW0.out]; simp
        go_enter Try.func25, Try.ntmps25
        go_wp2_with fail
        rw [← HW0.out]
        refine (specNetworkOk N _ r1 _ (hk1.out _ BB)).mono ?_; rintro e w1 ⟨rfl, b1⟩
        have ca1 := Below.keeps b1 _ _ ca1
        have cb1 := Below.keeps b1 _ _ cb1
        have ca2 := Below.keeps b1 _ _ ca2
        have cb2 := Below.keeps b1 _ _ cb2
        have B1 := BB.trans (b1.mono BB.size)
        have z1 : w.heap.size + 2 ≤ w1.heap.size := Nat.le_trans za b1.size
        clear HW0 b1 BB za
        go_wp2_with fail
        refine (specNetworkOk N _ r2 _ (hk2.out _ B1)).mono ?_; rintro e w2 ⟨rfl, b2⟩
        have ca1 := Below.keeps b2 _ _ ca1
        have cb1 := Below.keeps b2 _ _ cb1
        have ca2 := Below.keeps b2 _ _ ca2
        have cb2 := Below.keeps b2 _ _ cb2
        have B2 := B1.trans (b2.mono B1.size)
        have z2 : w.heap.size + 2 ≤ w2.heap.size := Nat.le_trans z1 b2.size
        clear b2 B1 z1
        go_wp2
        go_loopw [5] (fun i wr => ∃ k : Nat, k ≤ M ∧ i = .int .i64 k ∧ Hid (∀ m, m < k → bitsN (pairsOf r1) m = bitsN (pairsOf r2) m) ∧ Below w.heap.size w wr ∧ w.heap.size + 2 ≤ wr.heap.size ∧ wr.cell? ⟨w.heap.size, 0, none⟩ = some (.int .i64 N) ∧ wr.cell? ⟨w.heap.size, 1, none⟩ = some (.slice ao1 r1.length cap1) ∧ wr.cell? ⟨w.heap.size + 1, 0, none⟩ = some (.int .i64 N) ∧ wr.cell? ⟨w.heap.size + 1, 1, none⟩ = some (.slice ao2 r2.length cap2)) (fun i _ => M - (intOf i).toNat)
        case atStart => exact ⟨0, Nat.zero_le _, rfl, Lib.hid (fun m hm => by omega), B2, z2, ca1, cb1, ca2, cb2⟩
        case round =>
          clear ca1 cb1 ca2 cb2 B2
          obtain ⟨k, hkM, rfl, HE, hb, hz, ca1, cb1, ca2, cb2⟩ := hrel
          by_cases hlt : k < M
          · have hk256 : k < 256 := by omega
            have hz0 : w.heap.size < wr.heap.size := by omega
            have hz1 : w.heap.size + 1 < wr.heap.size := by omega
            have C1 : Hid (∀ x, Calls Try.prog 45 #[.slice ao1 r1.length cap1, .int .i64 k] (up wr x) fun e w' => e = .returned (.int .i64 (bitsN (pairsOf r1) k)) ∧ ∃ y, w' = up wr y) :=
              fun x => up_calls (l03Apply _ N (pairsOf r1) k _ (by rw [← HR1.out]; exact hk1.out _ (hb.trans ((up_below wr x).mono hb.size))) HP1.out hk256)
            have C2 : Hid (∀ x, Calls Try.prog 45 #[.slice ao2 r2.length cap2, .int .i64 k] (up wr x) fun e w' => e = .returned (.int .i64 (bitsN (pairsOf r2) k)) ∧ ∃ y, w' = up wr y) :=
              fun x => up_calls (l03Apply _ N (pairsOf r2) k _ (by rw [← HR2.out]; exact hk2.out _ (hb.trans ((up_below wr x).mono hb.size))) HP2.out hk256)
            obtain ⟨y1, Y1⟩ : ∃ y, Hid (bitsN (pairsOf r1) k = y) := ⟨_, Lib.hid rfl⟩
            obtain ⟨y2, Y2⟩ : ∃ y, Hid (bitsN (pairsOf r2) k = y) := ⟨_, Lib.hid rfl⟩
            rw [Y1.out] at C1
            rw [Y2.out] at C2
            by_cases hy : y1 = y2
            · have HE2 : Hid (∀ m, m < k + 1 → bitsN (pairsOf r1) m = bitsN (pairsOf r2) m) := by
                intro m hm
                rcases Nat.lt_or_ge m k with hh | hh
                · exact HE.out m hh
                · obtain rfl : m = k := by omega
                  rw [Y1.out, Y2.out, hy]
              subst hy
              go_wp2
              refine wp_region_up_lit (by kernel_rfl) (by kernel_rfl) ?_
              repeat (go_big_quiet_step ((go_at_call 45; first | (with_reducible exact C1.out _) | (with_reducible exact C2.out _))))
              refine up_end ?_
              intro wq hbq
              have hb2 := hb.trans (hbq.mono hb.size)
              have da1 := Below.keeps hbq _ _ ca1
              have db1 := Below.keeps hbq _ _ cb1
              have da2 := Below.keeps hbq _ _ ca2
              have db2 := Below.keeps hbq _ _ cb2
              have hz3 : w.heap.size + 2 ≤ wq.heap.size := Nat.le_trans hz hbq.size
              clear hbq
              go_wp2
              go_roundw
              case rel => exact ⟨k + 1, by omega, by go_num, HE2, hb2, hz3, da1, db1, da2, db2⟩
              case measure => simp [intOf]; omega
            · have HF : Hid (tf (DsP N r1 N r2) = false) := tf_no fun hh => hy (by rw [← Y1.out, ← Y2.out]; exact HD.out.1 hh k hlt)
              have hyi : ¬ ((y1 : Int) = (y2 : Int)) := by omega
              go_wp2
              refine wp_region_up_lit (by kernel_rfl) (by kernel_rfl) ?_
              repeat (go_big_quiet_step ((go_at_call 45; first | (with_reducible exact C1.out _) | (with_reducible exact C2.out _))))
              refine up_end ?_
              intro wq hbq
              have hb2 := hb.trans (hbq.mono hb.size)
              clear hbq
              go_wp2
              go_ret
              exact ⟨ret_bool HF.out.symm, hb2⟩
          · have HF : Hid (tf (DsP N r1 N r2) = true) := tf_yes (HD.out.2 fun m hm => HE.out m (by omega))
            go_wp2
            go_ret
            exact ⟨ret_bool HF.out.symm, hb⟩
      · have HF : Hid (tf (DsP n1 r1 n2 r2) = false) := tf_no fun hh => hnn hh.2.2.1
        clear hN1 hN2
        obtain ⟨W0, HW0⟩ : ∃ W0, Hid (W0 = ((w.alloc (.cells #[.int .i64 n1, .slice ao1 r1.length cap1] 28)).alloc (.cells #[.int .i64 n2, .slice ao2 r2.length cap2] 28))) := ⟨_, rfl⟩
        have BB : Below w.heap.size w W0 := by rw [HW0.out]; exact ((Below.refl _ _).alloc (by simp) _).alloc (by simp) _
        have ca1 : W0.cell? ⟨w.heap.size, 0, none⟩ = some (.int .i64 n1) := by rw [HW0.out]; simp [go_sem]
        have cb1 : W0.cell? ⟨w.heap.size, 1, none⟩ = some (.slice ao1 r1.length cap1) := by rw [HW0.out]; simp [go_sem]
        have ca2 : W0.cell? ⟨w.heap.size + 1, 0, none⟩ = some (.int .i64 n2) := by rw [HW0.out]; simp [go_sem]
        have cb2 : W0.cell? ⟨w.heap.size + 1, 1, none⟩ = some (.slice ao2 r2.length cap2) := by rw [HW0.out]; simp [go_sem]
        have za : w.heap.size + 2 ≤ W0.heap.size := by rw [HW0.out]; simp
        go_enter Try.func25, Try.ntmps25
        go_wp2_with fail
        rw [← HW0.out]
        refine (specNetworkOk n1 _ r1 _ (hk1.out _ BB)).mono ?_; rintro e w1 ⟨rfl, b1⟩
        have ca1 := Below.keeps b1 _ _ ca1
        have cb1 := Below.keeps b1 _ _ cb1
        have ca2 := Below.keeps b1 _ _ ca2
        have cb2 := Below.keeps b1 _ _ cb2
        have B1 := BB.trans (b1.mono BB.size)
        have z1 : w.heap.size + 2 ≤ w1.heap.size := Nat.le_trans za b1.size
        clear HW0 b1 BB za
        go_wp2_with fail
        refine (specNetworkOk n2 _ r2 _ (hk2.out _ B1)).mono ?_; rintro e w2 ⟨rfl, b2⟩
        have ca1 := Below.keeps b2 _ _ ca1
        have cb1 := Below.keeps b2 _ _ cb1
        have ca2 := Below.keeps b2 _ _ ca2
        have cb2 := Below.keeps b2 _ _ cb2
        have B2 := B1.trans (b2.mono B1.size)
        have z2 : w.heap.size + 2 ≤ w2.heap.size := Nat.le_trans z1 b2.size
        clear b2 B1 z1
        go_wp2
        go_ret
        exact ⟨ret_bool HF.out.symm, B2⟩
    · have ht2 := tf_no hN2
      have HF : Hid (tf (DsP n1 r1 n2 r2) = false) := tf_no fun hh => hN2 hh.2.1
      clear hN1 hN2
      obtain ⟨W0, HW0⟩ : ∃ W0, Hid (W0 = ((w.alloc (.cells #[.int .i64 n1, .slice ao1 r1.length cap1] 28)).alloc (.cells #[.int .i64 n2, .slice ao2 r2.length cap2] 28))) := ⟨_, rfl⟩
      have BB : Below w.heap.size w W0 := by rw [HW0.out]; exact ((Below.refl _ _).alloc (by simp) _).alloc (by simp) _
      have ca1 : W0.cell? ⟨w.heap.size, 0, none⟩ = some (.int .i64 n1) := by rw [HW0.out]; simp [go_sem]
      have cb1 : W0.cell? ⟨w.heap.size, 1, none⟩ = some (.slice ao1 r1.length cap1) := by rw [HW0.out]; simp [go_sem]
      have ca2 : W0.cell? ⟨w.heap.size + 1, 0, none⟩ = some (.int .i64 n2) := by rw [HW0.out]; simp [go_sem]
      have cb2 : W0.cell? ⟨w.heap.size + 1, 1, none⟩ = some (.slice ao2 r2.length cap2) := by rw [HW0.out]; simp [go_sem]
      have za : w.heap.size + 2 ≤ W0.heap.size := by rw [HW0.out]; simp
      go_enter Try.func25, Try.ntmps25
      go_wp2_with fail
      rw [← HW0.out]
      refine (specNetworkOk n1 _ r1 _ (hk1.out _ BB)).mono ?_; rintro e w1 ⟨rfl, b1⟩
      have ca1 := Below.keeps b1 _ _ ca1
      have cb1 := Below.keeps b1 _ _ cb1
      have ca2 := Below.keeps b1 _ _ ca2
      have cb2 := Below.keeps b1 _ _ cb2
      have B1 := BB.trans (b1.mono BB.size)
      have z1 : w.heap.size + 2 ≤ w1.heap.size := Nat.le_trans za b1.size
      clear HW0 b1 BB za
      go_wp2_with fail
      refine (specNetworkOk n2 _ r2 _ (hk2.out _ B1)).mono ?_; rintro e w2 ⟨rfl, b2⟩
      have ca1 := Below.keeps b2 _ _ ca1
      have cb1 := Below.keeps b2 _ _ cb1
      have ca2 := Below.keeps b2 _ _ ca2
      have cb2 := Below.keeps b2 _ _ cb2
      have B2 := B1.trans (b2.mono B1.size)
      have z2 : w.heap.size + 2 ≤ w2.heap.size := Nat.le_trans z1 b2.size
      clear b2 B1 z1
      go_wp2
      go_ret
      exact ⟨ret_bool HF.out.symm, B2⟩
  · have ht1 := tf_no hN1
    have HF : Hid (tf (DsP n1 r1 n2 r2) = false) := tf_no fun hh => hN1 hh.1
    clear hN1
    obtain ⟨W0, HW0⟩ : ∃ W0, Hid (W0 = ((w.alloc (.cells #[.int .i64 n1, .slice ao1 r1.length cap1] 28)).alloc (.cells #[.int .i64 n2, .slice ao2 r2.length cap2] 28))) := ⟨_, rfl⟩
    have BB : Below w.heap.size w W0 := by rw [HW0.out]; exact ((Below.refl _ _).alloc (by simp) _).alloc (by simp) _
    have ca1 : W0.cell? ⟨w.heap.size, 0, none⟩ = some (.int .i64 n1) := by rw [HW0.out]; simp [go_sem]
    have cb1 : W0.cell? ⟨w.heap.size, 1, none⟩ = some (.slice ao1 r1.length cap1) := by rw [HW0.out]; simp [go_sem]
    have ca2 : W0.cell? ⟨w.heap.size + 1, 0, none⟩ = some (.int .i64 n2) := by rw [HW0.out]; simp [go_sem]
    have cb2 : W0.cell? ⟨w.heap.size + 1, 1, none⟩ = some (.slice ao2 r2.length cap2) := by rw [HW0.out]; simp [go_sem]
    have za : w.heap.size + 2 ≤ W0.heap.size := by rw [HW0.out]; simp
    go_enter Try.func25, Try.ntmps25
    go_wp2_with fail
    rw [← HW0.out]
    refine (specNetworkOk n1 _ r1 _ (hk1.out _ BB)).mono ?_; rintro e w1 ⟨rfl, b1⟩
    have ca1 := Below.keeps b1 _ _ ca1
    have cb1 := Below.keeps b1 _ _ cb1
    have ca2 := Below.keeps b1 _ _ ca2
    have cb2 := Below.keeps b1 _ _ cb2
    have B1 := BB.trans (b1.mono BB.size)
    have z1 : w.heap.size + 2 ≤ w1.heap.size := Nat.le_trans za b1.size
    clear HW0 b1 BB za
    go_wp2
    go_ret
    exact ⟨ret_bool HF.out.symm, B1⟩
set_option maxHeartbeats 1600000 in
set_option maxRecDepth 100000 in
theorem implDoSame (n1 : Int) (v1 : Value) (r1 : List (List Int)) (n2 : Int) (v2 : Value) (r2 : List (List Int)) (w : World) (h1 : (Lit.int .i64 n1).wf = true) (I1 : IntSS w v1 r1) (hl1 : r1.length + sumLen r1 ≤ 1048576) (h2 : (Lit.int .i64 n2).wf = true) (I2 : IntSS w v2 r2) (hl2 : r2.length + sumLen r2 ≤ 1048576) :
    Calls Try.prog 26 #[.agg #[.int .i64 n1, v1], .agg #[.int .i64 n2, v2]] w (GivesB w (tf (DsP n1 r1 n2 r2))) := by
  have hk1 : Hid (∀ W, Below w.heap.size w W → IntSS W v1 r1) := fun W hb => I1.keep (Below.keeps hb)
  have hk2 : Hid (∀ W, Below w.heap.size w W → IntSS W v2 r2) := fun W hb => I2.keep (Below.keeps hb)
  obtain ⟨ao1, cap1, hv1, _⟩ := I1
  obtain ⟨ao2, cap2, hv2, _⟩ := I2
  subst hv1
  subst hv2
  clear h1 h2 hl1 hl2
  rcases Classical.em (NetP n1 r1) with hN1 | hN1
  · have ht1 := tf_yes hN1
    rcases Classical.em (NetP n2 r2) with hN2 | hN2
    · have ht2 := tf_yes hN2
      by_cases hnn : n1 = n2
      · subst hnn
        obtain ⟨N, hNN, hr1, hp1⟩ := hN1.pairs
        subst hNN
        obtain ⟨N', hNN, hr2, hp2⟩ := hN2.pairs
        have hNe : N = N' := by omega
        subst hNe
        have HP1 := Lib.hid hp1
        have HP2 := Lib.hid hp2
        have HR1 := Lib.hid hr1
        have HR2 := Lib.hid hr2
        have hN8 := hp1.2.1
        have hw := wrap_pow N hN8
        have hq := pow_le8 N hN8
        have hc := nat_pow_cast N
        have HD : Hid (DsP N r1 N r2 ↔ ∀ m, m < 2 ^ N → bitsN (pairsOf r1) m = bitsN (pairsOf r2) m) := ⟨fun h => h.2.2.2, fun h => ⟨hN1, hN2, rfl, h⟩⟩
        obtain ⟨M, HM⟩ : ∃ M : Nat, Hid (2 ^ N = M) := ⟨_, rfl⟩
        have hM : (2 : Int) ^ N = (M : Int) := by rw [← hc, HM.out]
        rw [HM.out] at HD
        rw [hM] at hw hq
        clear hN1 hN2 hp1 hp2 hr1 hr2 hc hNN
        obtain ⟨W0, HW0⟩ : ∃ W0, Hid (W0 = ((w.alloc (.cells #[.int .i64 N, .slice ao1 r1.length cap1] 28)).alloc (.cells #[.int .i64 N, .slice ao2 r2.length cap2] 28))) := ⟨_, rfl⟩
        have BB : Below w.heap.size w W0 := by rw [HW0.out]; exact ((Below.refl _ _).alloc (by simp) _).alloc (by simp) _
        have ca1 : W0.cell? ⟨w.heap.size, 0, none⟩ = some (.int .i64 N) := by rw [HW0.out]; simp [go_sem]
        have cb1 : W0.cell? ⟨w.heap.size, 1, none⟩ = some (.slice ao1 r1.length cap1) := by rw [HW0.out]; simp [go_sem]
        have ca2 : W0.cell? ⟨w.heap.size + 1, 0, none⟩ = some (.int .i64 N) := by rw [HW0.out]; simp [go_sem]
        have cb2 : W0.cell? ⟨w.heap.size + 1, 1, none⟩ = some (.slice ao2 r2.length cap2) := by rw [HW0.out]; simp [go_sem]
        have za : w.heap.size + 2 ≤ W0.heap.size := by rw [HW0.out]; simp
        go_enter Try.func26, Try.ntmps26
        go_wp2_with fail
        rw [← HW0.out]
        refine (implNetworkOk N _ r1 _ (hk1.out _ BB)).mono ?_; rintro e w1 ⟨rfl, b1⟩
        have ca1 := Below.keeps b1 _ _ ca1
        have cb1 := Below.keeps b1 _ _ cb1
        have ca2 := Below.keeps b1 _ _ ca2
        have cb2 := Below.keeps b1 _ _ cb2
        have B1 := BB.trans (b1.mono BB.size)
        have z1 : w.heap.size + 2 ≤ w1.heap.size := Nat.le_trans za b1.size
        clear HW0 b1 BB za
        go_wp2_with fail
        refine (implNetworkOk N _ r2 _ (hk2.out _ B1)).mono ?_; rintro e w2 ⟨rfl, b2⟩
        have ca1 := Below.keeps b2 _ _ ca1
        have cb1 := Below.keeps b2 _ _ cb1
        have ca2 := Below.keeps b2 _ _ ca2
        have cb2 := Below.keeps b2 _ _ cb2
        have B2 := B1.trans (b2.mono B1.size)
        have z2 : w.heap.size + 2 ≤ w2.heap.size := Nat.le_trans z1 b2.size
        clear b2 B1 z1
        go_wp2
        go_loopw [24] (fun i wr => ∃ k : Nat, k ≤ M ∧ i = .int .i64 k ∧ Hid (∀ m, m < k → bitsN (pairsOf r1) m = bitsN (pairsOf r2) m) ∧ Below w.heap.size w wr ∧ w.heap.size + 2 ≤ wr.heap.size ∧ wr.cell? ⟨w.heap.size, 0, none⟩ = some (.int .i64 N) ∧ wr.cell? ⟨w.heap.size, 1, none⟩ = some (.slice ao1 r1.length cap1) ∧ wr.cell? ⟨w.heap.size + 1, 0, none⟩ = some (.int .i64 N) ∧ wr.cell? ⟨w.heap.size + 1, 1, none⟩ = some (.slice ao2 r2.length cap2)) (fun i _ => M - (intOf i).toNat)
        case atStart => exact ⟨0, Nat.zero_le _, rfl, Lib.hid (fun m hm => by omega), B2, z2, ca1, cb1, ca2, cb2⟩
        case round =>
          clear ca1 cb1 ca2 cb2 B2
          obtain ⟨k, hkM, rfl, HE, hb, hz, ca1, cb1, ca2, cb2⟩ := hrel
          by_cases hlt : k < M
          · have hk256 : k < 256 := by omega
            have hz0 : w.heap.size < wr.heap.size := by omega
            have hz1 : w.heap.size + 1 < wr.heap.size := by omega
            have C1 : Hid (∀ x, Calls Try.prog 46 #[.agg #[.int .i64 N, .slice ao1 r1.length cap1], .int .i64 k] (up wr x) fun e w' => e = .returned (.int .i64 (bitsN (pairsOf r1) k)) ∧ ∃ y, w' = up wr y) :=
              fun x => up_calls (bits N _ N (pairsOf r1) k _ (by rw [← HR1.out]; exact hk1.out _ (hb.trans ((up_below wr x).mono hb.size))) HP1.out hk256)
            have C2 : Hid (∀ x, Calls Try.prog 46 #[.agg #[.int .i64 N, .slice ao2 r2.length cap2], .int .i64 k] (up wr x) fun e w' => e = .returned (.int .i64 (bitsN (pairsOf r2) k)) ∧ ∃ y, w' = up wr y) :=
              fun x => up_calls (bits N _ N (pairsOf r2) k _ (by rw [← HR2.out]; exact hk2.out _ (hb.trans ((up_below wr x).mono hb.size))) HP2.out hk256)
            obtain ⟨y1, Y1⟩ : ∃ y, Hid (bitsN (pairsOf r1) k = y) := ⟨_, Lib.hid rfl⟩
            obtain ⟨y2, Y2⟩ : ∃ y, Hid (bitsN (pairsOf r2) k = y) := ⟨_, Lib.hid rfl⟩
            rw [Y1.out] at C1
            rw [Y2.out] at C2
            by_cases hy : y1 = y2
            · have HE2 : Hid (∀ m, m < k + 1 → bitsN (pairsOf r1) m = bitsN (pairsOf r2) m) := by
                intro m hm
                rcases Nat.lt_or_ge m k with hh | hh
                · exact HE.out m hh
                · obtain rfl : m = k := by omega
                  rw [Y1.out, Y2.out, hy]
              subst hy
              go_wp2
              refine wp_region_up_lit (by kernel_rfl) (by kernel_rfl) ?_
              repeat (go_big_quiet_step ((go_at_call 46; first | (with_reducible exact C1.out _) | (with_reducible exact C2.out _))))
              refine up_end ?_
              intro wq hbq
              have hb2 := hb.trans (hbq.mono hb.size)
              have da1 := Below.keeps hbq _ _ ca1
              have db1 := Below.keeps hbq _ _ cb1
              have da2 := Below.keeps hbq _ _ ca2
              have db2 := Below.keeps hbq _ _ cb2
              have hz3 : w.heap.size + 2 ≤ wq.heap.size := Nat.le_trans hz hbq.size
              clear hbq
              go_wp2
              go_roundw
              case rel => exact ⟨k + 1, by omega, by go_num, HE2, hb2, hz3, da1, db1, da2, db2⟩
              case measure => simp [intOf]; omega
            · have HF : Hid (tf (DsP N r1 N r2) = false) := tf_no fun hh => hy (by rw [← Y1.out, ← Y2.out]; exact HD.out.1 hh k hlt)
              have hyi : ¬ ((y1 : Int) = (y2 : Int)) := by omega
              go_wp2
              refine wp_region_up_lit (by kernel_rfl) (by kernel_rfl) ?_
              repeat (go_big_quiet_step ((go_at_call 46; first | (with_reducible exact C1.out _) | (with_reducible exact C2.out _))))
              refine up_end ?_
              intro wq hbq
              have hb2 := hb.trans (hbq.mono hb.size)
              clear hbq
              go_wp2
              go_ret
              exact ⟨ret_bool HF.out.symm, hb2⟩
          · have HF : Hid (tf (DsP N r1 N r2) = true) := tf_yes (HD.out.2 fun m hm => HE.out m (by omega))
            go_wp2
            go_ret
            exact ⟨ret_bool HF.out.symm, hb⟩
      · have HF : Hid (tf (DsP n1 r1 n2 r2) = false) := tf_no fun hh => hnn hh.2.2.1
        clear hN1 hN2
        obtain ⟨W0, HW0⟩ : ∃ W0, Hid (W0 = ((w.alloc (.cells #[.int .i64 n1, .slice ao1 r1.length cap1] 28)).alloc (.cells #[.int .i64 n2, .slice ao2 r2.length cap2] 28))) := ⟨_, rfl⟩
        have BB : Below w.heap.size w W0 := by rw [HW0.out]; exact ((Below.refl _ _).alloc (by simp) _).alloc (by simp) _
        have ca1 : W0.cell? ⟨w.heap.size, 0, none⟩ = some (.int .i64 n1) := by rw [HW0.out]; simp [go_sem]
        have cb1 : W0.cell? ⟨w.heap.size, 1, none⟩ = some (.slice ao1 r1.length cap1) := by rw [HW0.out]; simp [go_sem]
        have ca2 : W0.cell? ⟨w.heap.size + 1, 0, none⟩ = some (.int .i64 n2) := by rw [HW0.out]; simp [go_sem]
        have cb2 : W0.cell? ⟨w.heap.size + 1, 1, none⟩ = some (.slice ao2 r2.length cap2) := by rw [HW0.out]; simp [go_sem]
        have za : w.heap.size + 2 ≤ W0.heap.size := by rw [HW0.out]; simp
        go_enter Try.func26, Try.ntmps26
        go_wp2_with fail
        rw [← HW0.out]
        refine (implNetworkOk n1 _ r1 _ (hk1.out _ BB)).mono ?_; rintro e w1 ⟨rfl, b1⟩
        have ca1 := Below.keeps b1 _ _ ca1
        have cb1 := Below.keeps b1 _ _ cb1
        have ca2 := Below.keeps b1 _ _ ca2
        have cb2 := Below.keeps b1 _ _ cb2
        have B1 := BB.trans (b1.mono BB.size)
        have z1 : w.heap.size + 2 ≤ w1.heap.size := Nat.le_trans za b1.size
        clear HW0 b1 BB za
        go_wp2_with fail
        refine (implNetworkOk n2 _ r2 _ (hk2.out _ B1)).mono ?_; rintro e w2 ⟨rfl, b2⟩
        have ca1 := Below.keeps b2 _ _ ca1
        have cb1 := Below.keeps b2 _ _ cb1
        have ca2 := Below.keeps b2 _ _ ca2
        have cb2 := Below.keeps b2 _ _ cb2
        have B2 := B1.trans (b2.mono B1.size)
        have z2 : w.heap.size + 2 ≤ w2.heap.size := Nat.le_trans z1 b2.size
        clear b2 B1 z1
        go_wp2
        go_ret
        exact ⟨ret_bool HF.out.symm, B2⟩
    · have ht2 := tf_no hN2
      have HF : Hid (tf (DsP n1 r1 n2 r2) = false) := tf_no fun hh => hN2 hh.2.1
      clear hN1 hN2
      obtain ⟨W0, HW0⟩ : ∃ W0, Hid (W0 = ((w.alloc (.cells #[.int .i64 n1, .slice ao1 r1.length cap1] 28)).alloc (.cells #[.int .i64 n2, .slice ao2 r2.length cap2] 28))) := ⟨_, rfl⟩
      have BB : Below w.heap.size w W0 := by rw [HW0.out]; exact ((Below.refl _ _).alloc (by simp) _).alloc (by simp) _
      have ca1 : W0.cell? ⟨w.heap.size, 0, none⟩ = some (.int .i64 n1) := by rw [HW0.out]; simp [go_sem]
      have cb1 : W0.cell? ⟨w.heap.size, 1, none⟩ = some (.slice ao1 r1.length cap1) := by rw [HW0.out]; simp [go_sem]
      have ca2 : W0.cell? ⟨w.heap.size + 1, 0, none⟩ = some (.int .i64 n2) := by rw [HW0.out]; simp [go_sem]
      have cb2 : W0.cell? ⟨w.heap.size + 1, 1, none⟩ = some (.slice ao2 r2.length cap2) := by rw [HW0.out]; simp [go_sem]
      have za : w.heap.size + 2 ≤ W0.heap.size := by rw [HW0.out]; simp
      go_enter Try.func26, Try.ntmps26
      go_wp2_with fail
      rw [← HW0.out]
      refine (implNetworkOk n1 _ r1 _ (hk1.out _ BB)).mono ?_; rintro e w1 ⟨rfl, b1⟩
      have ca1 := Below.keeps b1 _ _ ca1
      have cb1 := Below.keeps b1 _ _ cb1
      have ca2 := Below.keeps b1 _ _ ca2
      have cb2 := Below.keeps b1 _ _ cb2
      have B1 := BB.trans (b1.mono BB.size)
      have z1 : w.heap.size + 2 ≤ w1.heap.size := Nat.le_trans za b1.size
      clear HW0 b1 BB za
      go_wp2_with fail
      refine (implNetworkOk n2 _ r2 _ (hk2.out _ B1)).mono ?_; rintro e w2 ⟨rfl, b2⟩
      have ca1 := Below.keeps b2 _ _ ca1
      have cb1 := Below.keeps b2 _ _ cb1
      have ca2 := Below.keeps b2 _ _ ca2
      have cb2 := Below.keeps b2 _ _ cb2
      have B2 := B1.trans (b2.mono B1.size)
      have z2 : w.heap.size + 2 ≤ w2.heap.size := Nat.le_trans z1 b2.size
      clear b2 B1 z1
      go_wp2
      go_ret
      exact ⟨ret_bool HF.out.symm, B2⟩
  · have ht1 := tf_no hN1
    have HF : Hid (tf (DsP n1 r1 n2 r2) = false) := tf_no fun hh => hN1 hh.1
    clear hN1
    obtain ⟨W0, HW0⟩ : ∃ W0, Hid (W0 = ((w.alloc (.cells #[.int .i64 n1, .slice ao1 r1.length cap1] 28)).alloc (.cells #[.int .i64 n2, .slice ao2 r2.length cap2] 28))) := ⟨_, rfl⟩
    have BB : Below w.heap.size w W0 := by rw [HW0.out]; exact ((Below.refl _ _).alloc (by simp) _).alloc (by simp) _
    have ca1 : W0.cell? ⟨w.heap.size, 0, none⟩ = some (.int .i64 n1) := by rw [HW0.out]; simp [go_sem]
    have cb1 : W0.cell? ⟨w.heap.size, 1, none⟩ = some (.slice ao1 r1.length cap1) := by rw [HW0.out]; simp [go_sem]
    have ca2 : W0.cell? ⟨w.heap.size + 1, 0, none⟩ = some (.int .i64 n2) := by rw [HW0.out]; simp [go_sem]
    have cb2 : W0.cell? ⟨w.heap.size + 1, 1, none⟩ = some (.slice ao2 r2.length cap2) := by rw [HW0.out]; simp [go_sem]
    have za : w.heap.size + 2 ≤ W0.heap.size := by rw [HW0.out]; simp
    go_enter Try.func26, Try.ntmps26
    go_wp2_with fail
    rw [← HW0.out]
    refine (implNetworkOk n1 _ r1 _ (hk1.out _ BB)).mono ?_; rintro e w1 ⟨rfl, b1⟩
    have ca1 := Below.keeps b1 _ _ ca1
    have cb1 := Below.keeps b1 _ _ cb1
    have ca2 := Below.keeps b1 _ _ ca2
    have cb2 := Below.keeps b1 _ _ cb2
    have B1 := BB.trans (b1.mono BB.size)
    have z1 : w.heap.size + 2 ≤ w1.heap.size := Nat.le_trans za b1.size
    clear HW0 b1 BB za
    go_wp2
    go_ret
    exact ⟨ret_bool HF.out.symm, B1⟩
end Go.Proofs.Ytibbpppponmhkaa
