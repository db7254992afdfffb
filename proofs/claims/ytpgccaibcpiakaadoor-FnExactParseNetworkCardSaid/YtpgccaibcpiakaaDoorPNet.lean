/- Contracts: ParseNetwork, the reference's. -/
import Derived.Test.YtpgccaibcpiakaaDoorNb
import Derived.Test.YtpgccaibcpiakaaDoorNetOk
import Derived.Test.YtpgccaibcpiakaaDoorFmtN
import Derived.Test.YtpgccaibcpiakaaDoorPnP
import Derived.BigRegion
namespace Go.Proofs.YtpgccaibcpiakaaDoor
open Go.RowKit
set_option linter.unusedVariables false

theorem strq' (s t : ByteArray) : (s.toList == t.toList) = decide (s = t) := by
  rw [ByteArray.toList_eq, ByteArray.toList_eq]
  by_cases h : s = t
  · subst h; simp
  · have : ¬ s.data.toList = t.data.toList := fun e => h (bytes_eq e)
    simp [h]
    exact fun e => this (by rw [e])
theorem pnR_two (t : ByteArray) : ∀ k, ∀ r ∈ pnR t k, r.length ≤ 2
  | 0 => fun r hr => by cases hr
  | k + 1 => fun r hr => by
    rcases List.mem_append.1 (show r ∈ pnR t k ++ [_] from hr) with h | h
    · exact pnR_two t k r h
    · rw [List.mem_singleton] at h; subst h; simp
theorem pnR_sum (t : ByteArray) (k : Nat) : (pnR t k).length + sumLen (pnR t k) ≤ 3 * k := by
  have := sumLen_le2 _ (pnR_two t k)
  rw [pnR_length] at *; omega

set_option maxHeartbeats 1600000 in
set_option maxRecDepth 100000 in
theorem specParseNetwork (t : ByteArray) (w : World) (ht : t.size ≤ maxLen) :
    Calls Tryd.prog 7 #[.string t] w (GivesNB w (nbN (PnP t) (bI t 0)) (nbR (PnP t) (pnR t (pnK t))) (tf (PnP t))) := by
  unfold maxLen at ht
  obtain ⟨i0, hi, hz0, hz1, hz2⟩ := info_parts infoInts
  have r0 := ResC.start w 27
  by_cases hs : t.size < 2 ∨ 300 < t.size
  · have hNP : ¬ PnP t := fun h => by have := h.1; omega
    rw [nbN_no hNP, nbR_no hNP, tf_no hNP]
    clear hNP
    obtain ⟨d0, d1, f0, f1, _⟩ := r0
    go_enter Tryd.func7, Tryd.ntmps7
    rcases Nat.lt_or_ge t.size 2 with h2 | h2
    · go_wp2
      exact bodyPost_ret (v := .tuple #[.agg #[.int .i64 0, .slice none 0 0], .bool false]) (by simp [results, Tryd.results7, go_sem, d0, d1]) rfl ⟨_, rfl, OwnSS.nil _ _ _ _ _, (Below.refl _ _).alloc (Nat.le_refl _) _⟩
    · have h3 : 300 < t.size := by omega
      go_wp2
      exact bodyPost_ret (v := .tuple #[.agg #[.int .i64 0, .slice none 0 0], .bool false]) (by simp [results, Tryd.results7, go_sem, d0, d1]) rfl ⟨_, rfl, OwnSS.nil _ _ _ _ _, (Below.refl _ _).alloc (Nat.le_refl _) _⟩
  · have h2 : 2 ≤ t.size := by omega
    have h3 : t.size ≤ 300 := by omega
    obtain ⟨n, HNN⟩ : ∃ n, Hid (bI t 0 = n) := ⟨_, rfl⟩
    obtain ⟨K, HKK⟩ : ∃ K, Hid (pnK t = K) := ⟨_, rfl⟩
    have hK : K = (t.size - 2) / 4 := HKK.out.symm
    rw [HNN.out, HKK.out]
    have hn : n = (t[0].toNat : Int) - 48 := by rw [← HNN.out, bI_at]
    have hb0 : t[0].toNat < 256 := t[0].toNat_lt
    go_enter Tryd.func7, Tryd.ntmps7
    go_wp2
    generalize hz : t[0].toNat = z0 at *
    rw [← hn]
    have hnin : In64 n := WalkArith.wf_i64 (by omega)
    have hA : NetIn (w.heap.size + 1) (w.heap.size + 1 + 1) n (pnR t 0) ((w.alloc (.cells #[.int .i64 0, .slice none 0 0] 27)).alloc (.cells #[.int .i64 n, .slice none 0 0] 27)) (.slice none 0 0) := by
      have := NetIn.start (w.alloc (.cells #[.int .i64 0, .slice none 0 0] 27)) n 27
      rw [World.size_alloc] at this
      exact this
    have rW := r0.below ((Below.refl _ _).alloc (Nat.le_refl _) (.cells #[.int .i64 n, .slice none 0 0] 27)) (by simp)
    have bW : Below w.heap.size w ((w.alloc (.cells #[.int .i64 0, .slice none 0 0] 27)).alloc (.cells #[.int .i64 n, .slice none 0 0] 27)) := ((Below.refl _ _).alloc (Nat.le_refl _) _).alloc (by simp) _
    have sW : ((w.alloc (.cells #[.int .i64 0, .slice none 0 0] 27)).alloc (.cells #[.int .i64 n, .slice none 0 0] 27)).heap.size = w.heap.size + 2 := by simp
    obtain ⟨W1, HW1⟩ : ∃ W, Hid (W = (w.alloc (.cells #[.int .i64 0, .slice none 0 0] 27)).alloc (.cells #[.int .i64 n, .slice none 0 0] 27)) := ⟨_, rfl⟩
    rw [← HW1.out] at hA rW bW sW ⊢
    have HNZ := Lib.hid hn
    clear HW1 r0 hz hb0 hn
    have HRW := Lib.hid rW
    have HBW := Lib.hid bW
    clear rW bW
    go_loopw [5] (fun i wr => ∃ (k m : Nat) (u : Value), k ≤ K ∧ m = 2 + 4 * k ∧ i = .int .i64 (m : Int) ∧ Hid (NetIn (w.heap.size + 1) (w.heap.size + 1 + 1) n (pnR t k) wr u) ∧ Hid (Kept (w.heap.size + 1) (w.heap.size + 1 + 1) W1 wr)) (fun i _ => t.size + 4 - (intOf i).toNat)
    case atStart => exact ⟨0, 2, _, Nat.zero_le _, rfl, rfl, Lib.hid hA, Lib.hid (Kept.refl _ _ _ (by omega))⟩
    case round =>
      clear hA
      obtain ⟨k, m, u, hk, hm, rfl, HN, HK⟩ := hrel
      by_cases hlt : k < K
      · obtain ⟨m1, hm1⟩ : ∃ x, x = m + 1 := ⟨_, rfl⟩
        obtain ⟨m3, hm3⟩ : ∃ x, x = m + 3 := ⟨_, rfl⟩
        have h5 : m3 < t.size := by omega
        have h4 : m1 < t.size := by omega
        have wr1 : IntKind.i64.wrap ((m : Int) + 1) = (m1 : Int) := by rw [IntWalk.i64_in _ ⟨by omega, by omega⟩]; omega
        have wr3 : IntKind.i64.wrap ((m : Int) + 3) = (m3 : Int) := by rw [IntWalk.i64_in _ ⟨by omega, by omega⟩]; omega
        have in1 : (0 : Int) ≤ (m1 : Int) := by omega
        have in3 : (0 : Int) ≤ (m3 : Int) := by omega
        have in2 : (m1 : Int) < (t.size : Int) := by omega
        have in4 : (m3 : Int) < (t.size : Int) := by omega
        have in5 : (m : Int) + 3 < (t.size : Int) := by omega
        have q1 : t[m1].toNat < 256 := t[m1].toNat_lt
        have q2 : t[m3].toNat < 256 := t[m3].toNat_lt
        obtain ⟨pa, hpa⟩ : ∃ x : Int, x = (t[m1].toNat : Int) - 48 := ⟨_, rfl⟩
        obtain ⟨pb, hpb⟩ : ∃ x : Int, x = (t[m3].toNat : Int) - 48 := ⟨_, rfl⟩
        have HD : Hid (pnR t (k + 1) = pnR t k ++ [[pa, pb]]) := by
          show _ ++ [[bI t (4 * k + 3), bI t (4 * k + 5)]] = _
          rw [show 4 * k + 3 = m1 by omega, show 4 * k + 5 = m3 by omega, bI_at h4, bI_at h5, hpa, hpb]
        have ws1 : IntKind.i64.wrap ((t[m1].toNat : Int) - 48) = pa := by rw [hpa]; exact IntWalk.i64_in _ ⟨by omega, by omega⟩
        have ws3 : IntKind.i64.wrap ((t[m3].toNat : Int) - 48) = pb := by rw [hpb]; exact IntWalk.i64_in _ ⟨by omega, by omega⟩
        have wc1 : IntKind.i64.wrap (t[m1].toNat : Int) = (t[m1].toNat : Int) := IntWalk.i64_in _ ⟨by omega, by omega⟩
        have wc3 : IntKind.i64.wrap (t[m3].toNat : Int) = (t[m3].toNat : Int) := IntWalk.i64_in _ ⟨by omega, by omega⟩
        have hw1 : In64 pa := WalkArith.wf_i64 (by omega)
        have hw2 : In64 pb := WalkArith.wf_i64 (by omega)
        have HPA := Lib.hid hpa
        have HPB := Lib.hid hpb
        have HM1 := Lib.hid hm1
        have HM3 := Lib.hid hm3
        clear hpa hpb hm1 hm3
        obtain ⟨⟨vs, hO, hR⟩, cn, cu2, cf2, hB, hlo⟩ := HN.out
        have HO := Lib.hid hO
        have HW := Lib.hid hR
        have HU : Hid (∀ g, g < w.heap.size + 1 + 1 → some g ≠ u.ownBlock) := fun g hg e => by have := HO.out.lt e.symm; omega
        have hvl : vs.length ≤ 80 := by have := HW.out.1; rw [pnR_length] at this; omega
        have hB2 : w.heap.size + 1 < wr.heap.size := by omega
        have hB3 : w.heap.size + 1 < wr.heap.size + 1 := by omega
        clear hO hR HN
        have HMM := Lib.hid hm
        have HK2 := Lib.hid hK
        clear hm hK hs
        go_wp2
        rw [show Op.load 25 (Operand.tmp 27) = ldOp 25 (Operand.tmp 27) from rfl]
        go_region_held3 (fun w' => True) (trivial) ((refine step_append_lies _ (by rfl) (.tmp 28) (.tmp 42) 25 (by rfl) (w.heap.size + 1 + 1) tInts i0 (.slice none 0 0) 1 24 Tryd.underlying25 hi hz0 hz1 hz2 rfl (by decide) u vs.length vs (by first | rfl | simp [Act.eval]) (by exact (HO.out.1.alloc _ |>.alloc _)) ⟨wr.heap.size + 1, 0, none⟩ 1 1 [.slice (some ⟨wr.heap.size, 0, none⟩) 2 2] (by simp [Act.eval]) (by rfl) (by exact news_two _ _ _ _) (by simp [Value.oneCell']) (by decide) (by unfold maxLen; omega) (by omega) (by simp; omega) (wr.heap.size + 2) (by simp) ?_; intro g cap2 w1 hown hgrow hat hlt2; have zz := after_new (below_two _ _ _) hgrow cu2 cf2 (HU.out _ (by first | (simp; done) | (simp; omega))); obtain ⟨z1, z2⟩ := zz))
        all_goals
          obtain ⟨P, Q⟩ := NetIn.push (n := n) HO.out HW.out cn cu2 cf2 hB hlo (below_two _ _ _) (pair_two _ _ _ hw1 hw2 _) (by simp) hown hgrow HK.out
          rw [← HD.out] at P
          clear hown hgrow hat hlt2 z1 z2 HO HW
          go_wp2
          go_roundw
          have hm := HMM.out
          have hK := HK2.out
          case rel => exact ⟨k + 1, m + 4, _, by omega, by omega, by go_num, Lib.hid P, Lib.hid Q⟩
          case measure => first | (simp [intOf]; done) | (simp [intOf]; omega)
      · obtain rfl : k = K := by omega
        have dN9 : decide ((m : Int) + 3 < (t.size : Int)) = false := decide_eq_false (by omega)
        have wr3 : IntKind.i64.wrap ((m : Int) + 3) = (m : Int) + 3 := IntWalk.i64_in _ ⟨by omega, by omega⟩
        obtain ⟨hR, cn, cu, cf, hB, hlo⟩ := HN.out
        obtain ⟨d0, d1, f0, f1, _⟩ := HRW.out.below HK.out.1 (by omega)
        obtain ⟨a3, l3, c3, hu⟩ := hR.shape
        subst hu
        have bwr : Below w.heap.size w wr := HBW.out.trans (HK.out.1.mono (by omega))
        have HR := Lib.hid hR
        have hIk : Hid (∀ W, Below wr.heap.size wr W → IntSS W (.slice a3 l3 c3) (pnR t k)) := fun W hb => hR.intss.keep (Below.keeps hb)
        have hlen := pnR_sum t k
        have hk75 : k ≤ 75 := by omega
        have hy1 : w.heap.size < wr.heap.size := by omega
        have hy2 : w.heap.size + 1 < wr.heap.size := by omega
        have HM := Lib.hid hm
        clear hm hK hk hlt hR HN HK hs
        by_cases hNP : NetP n (pnR t k)
        · have ht1 := tf_yes hNP
          by_cases hF : fmtT n (pnR t k) = t
          · have hP : PnP t := ⟨⟨h2, h3⟩, by rw [HNN.out, HKK.out]; exact hNP, by rw [HNN.out, HKK.out]; exact hF⟩
            have HPP := Lib.hid hP
            have hst : ((fmtT n (pnR t k)).toList == t.toList) = true := by rw [strq', hF]; simp
            clear hP hNP hF
            go_wp2_with fail
            refine (specNetworkOk n _ (pnR t k) wr (hIk.out _ (Below.refl _ _))).mono ?_; rintro e w1 ⟨rfl, b1⟩
            rw [ht1]
            have s1 := b1.size
            have cn1 := Below.keeps b1 _ _ cn
            have cu1 := Below.keeps b1 _ _ cu
            go_wp2_with fail
            refine (specFormatNetwork n _ (pnR t k) w1 hnin (hIk.out _ b1) (by omega)).mono ?_; rintro e w2 ⟨rfl, b2⟩
            have b12 := b1.trans (b2.mono b1.size)
            have s2 := b12.size
            have cn2 := Below.keeps b12 _ _ cn
            have cu2 := Below.keeps b12 _ _ cu
            have e0 := Below.keeps b12 _ _ d0
            have e1 := Below.keeps b12 _ _ d1
            have g0 := (b12.frozen (p := ⟨w.heap.size, 0, none⟩) hy1).trans f0
            have g1 := (b12.frozen (p := ⟨w.heap.size, 1, none⟩) hy1).trans f1
            have bw2 := bwr.trans (b12.mono bwr.size)
            obtain ⟨RR, BB⟩ := ((HR.out.below b12 (Nat.le_refl _)).wide (Nat.le_refl _) s2).res (R := w.heap.size) (x := .int .i64 n) (y := .slice a3 l3 c3) (by omega) bw2 (Nat.le_refl _)
            clear d0 d1 f0 f1 cn cu cn1 cu1 b1 b2 b12 HR hIk
            go_wp2
            exact bodyPost_ret (v := .tuple #[.agg #[.int .i64 n, .slice a3 l3 c3], .bool true]) (by simp [results, Tryd.results7, go_sem, e0, e1]) rfl (by rw [nbN_yes HPP.out, nbR_yes HPP.out, tf_yes HPP.out]; exact ⟨_, rfl, RR, BB⟩)
          · have hP : ¬ PnP t := fun h => hF (by have := h.2.2; rw [HNN.out, HKK.out] at this; exact this)
            have HPP := Lib.hid hP
            have hst : ((fmtT n (pnR t k)).toList == t.toList) = false := by rw [strq']; exact decide_eq_false hF
            clear hP hNP hF
            go_wp2_with fail
            refine (specNetworkOk n _ (pnR t k) wr (hIk.out _ (Below.refl _ _))).mono ?_; rintro e w1 ⟨rfl, b1⟩
            rw [ht1]
            have s1 := b1.size
            have cn1 := Below.keeps b1 _ _ cn
            have cu1 := Below.keeps b1 _ _ cu
            go_wp2_with fail
            refine (specFormatNetwork n _ (pnR t k) w1 hnin (hIk.out _ b1) (by omega)).mono ?_; rintro e w2 ⟨rfl, b2⟩
            have b12 := b1.trans (b2.mono b1.size)
            have s2 := b12.size
            have e0 := Below.keeps b12 _ _ d0
            have e1 := Below.keeps b12 _ _ d1
            have g0 := (b12.frozen (p := ⟨w.heap.size, 0, none⟩) hy1).trans f0
            have g1 := (b12.frozen (p := ⟨w.heap.size, 1, none⟩) hy1).trans f1
            have bw2 := bwr.trans (b12.mono bwr.size)
            clear d0 d1 f0 f1 cn cu cn1 cu1 b1 b2 b12 HR hIk
            go_wp2
            exact bodyPost_ret (v := .tuple #[.agg #[.int .i64 0, .slice none 0 0], .bool false]) (by simp [results, Tryd.results7, go_sem, e0, e1]) rfl (by rw [nbN_no HPP.out, nbR_no HPP.out, tf_no HPP.out]; exact ⟨_, rfl, OwnSS.nil _ _ _ _ _, (bw2.setCell (by simp) _).setCell (by simp) _⟩)
        · have ht1 := tf_no hNP
          have hP : ¬ PnP t := fun h => hNP (by have := h.2.1; rw [HNN.out, HKK.out] at this; exact this)
          have HPP := Lib.hid hP
          clear hP hNP
          go_wp2_with fail
          refine (specNetworkOk n _ (pnR t k) wr (hIk.out _ (Below.refl _ _))).mono ?_; rintro e w1 ⟨rfl, b1⟩
          rw [ht1]
          have s1 := b1.size
          have e0 := Below.keeps b1 _ _ d0
          have e1 := Below.keeps b1 _ _ d1
          have g0 := (b1.frozen (p := ⟨w.heap.size, 0, none⟩) hy1).trans f0
          have g1 := (b1.frozen (p := ⟨w.heap.size, 1, none⟩) hy1).trans f1
          have bw2 := bwr.trans (b1.mono bwr.size)
          clear d0 d1 f0 f1 cn cu b1 HR hIk
          go_wp2
          exact bodyPost_ret (v := .tuple #[.agg #[.int .i64 0, .slice none 0 0], .bool false]) (by simp [results, Tryd.results7, go_sem, e0, e1]) rfl (by rw [nbN_no HPP.out, nbR_no HPP.out, tf_no HPP.out]; exact ⟨_, rfl, OwnSS.nil _ _ _ _ _, (bw2.setCell (by simp) _).setCell (by simp) _⟩)
end Go.Proofs.YtpgccaibcpiakaaDoor
