/- Contracts: ParseNetwork, the program's. -/
import Derived.Test.YtpgccaibcpiakaaDoorNb
import Derived.Test.YtpgccaibcpiakaaDoorFmtN2
import Derived.Test.YtpgccaibcpiakaaDoorPInt2
import Derived.Test.YtpgccaibcpiakaaDoorPNet
import Derived.Test.YtpgccaibcpiakaaDoorChk
import Derived.Test.YtpgccaibcpiakaaDoorDoor
import Derived.Test.YtpgccaibcpiakaaDoorShelfPn
import Derived.BigRegion
namespace Go.Proofs.YtpgccaibcpiakaaDoor
open Go.RowKit
set_option linter.unusedVariables false

theorem OwnS.addr' {e : TypeId} {w : World} {lo hi : Nat} {v : Value} {xs : List ByteArray} (h : OwnS e w lo hi v xs) (hn : 0 < xs.length) : ∃ g cap, v = .slice (some ⟨g, 0, none⟩) xs.length cap ∧ xs.length ≤ cap ∧ cap ≤ maxLen ∧ lo ≤ g ∧ g < hi ∧ ∀ j (hj : j < xs.length), w.cell? ⟨g, j, none⟩ = some (.string xs[j]) := by
  have hlt := fun g hg => h.1.lt (g := g) hg
  rcases h.1.cases with ⟨_, hx⟩ | ⟨g, cap, hv, hc, hm, _, _, _, _, hcell, _⟩
  · have := congrArg List.length hx
    simp at this
    rw [this] at hn; cases hn
  · rw [List.length_map] at hv hc
    have hg := hlt g (by rw [hv]; rfl)
    exact ⟨g, cap, hv, hc, hm, hg.1, hg.2.1, fun j hj => by have := hcell j (by simpa using hj); simpa using this⟩
theorem Kept.up {B lo : Nat} {W wr w' : World} (h : Kept B lo W wr) (hb : Below wr.heap.size wr w') (h1 : B ≤ wr.heap.size) (h2 : lo ≤ wr.heap.size) : Kept B lo W w' :=
  ⟨h.1.trans (hb.mono h1), fun i h3 h4 => (hb.block i (by omega)).trans (h.2 i h3 h4)⟩
theorem pn_news (w : World) (o1 : Obj) (v : Value) (t : TypeId) : ∀ (j : Nat) (u : Value), [v][j]? = some u → (((w.alloc o1).alloc (.cells #[v] t)).cell? ((⟨w.heap.size + 1, 0, none⟩ : Addr).add j) = some u) := by
  have h := news_one (w.alloc o1) v t
  rwa [World.size_alloc] at h
theorem pn_below (wr : World) (o1 o2 : Obj) : Below wr.heap.size wr ((wr.alloc o1).alloc o2) := (((Below.refl _ wr).alloc (Nat.le_refl _) o1).alloc (by simp) o2)
theorem pn_pair (wr : World) (a b : Int) (ha : In64 a) (hb : In64 b) (o2 : Obj) : OwnI tInt ((wr.alloc (.cells #[.int .i64 a, .int .i64 b] tInt)).alloc o2) wr.heap.size ((wr.alloc (.cells #[.int .i64 a, .int .i64 b] tInt)).alloc o2).heap.size (.slice (some ⟨wr.heap.size, 0, none⟩) 2 2) [a, b] :=
  pair_two wr a b ha hb o2
theorem pn_le (t : ByteArray) : sumLen (nbR (PnP t) (pnR t (pnK t))) ≤ 150 := nbR_le fun h => by
  have h1 := sumLen_le2 _ (pnR_two t (pnK t))
  have h2 := h.1
  rw [pnR_length] at h1
  unfold pnK at h1 ⊢
  omega
theorem PiP.in64 {u : ByteArray} (h : PiP u) : In64 (piN u) := by
  obtain ⟨n, hn, he⟩ := id h
  rw [piN_eq hn he]; exact hn

theorem splitC (t : ByteArray) (w : World) (ht : t.size ≤ 1048576) (hsh : w.ShapedOpen Tryd.prog) :
    Calls Tryd.prog 18 #[.string t, .string ⟨#[32]⟩] w fun e w' => ∃ g cap, e = .returned (.slice (some ⟨g, 0, none⟩) (pnW t).length cap) ∧ (pnW t).length ≤ cap ∧ cap ≤ maxLen ∧ w.heap.size ≤ g ∧ g < w'.heap.size ∧ (∀ j (hj : j < (pnW t).length), w'.cell? ⟨g, j, none⟩ = some (.string (pnW t)[j])) ∧ Below w.heap.size w w' := by
  refine (Tryd.strings_Split_shaped t ⟨#[32]⟩ w hsh (by omega) (by decide)).mono ?_
  rintro e w' ⟨rfl, rfl⟩
  have hl := pnW_len t
  have hle := countB_le t
  have O : OwnS 9 (w.alloc (.cells ((Lib.splitB ⟨#[32]⟩ 0 (Lib.countB t ⟨#[32]⟩) t).map Value.string).toArray 9)) w.heap.size (w.alloc (.cells ((Lib.splitB ⟨#[32]⟩ 0 (Lib.countB t ⟨#[32]⟩) t).map Value.string).toArray 9)).heap.size (.slice (some ⟨w.heap.size, 0, none⟩) (Lib.countB t ⟨#[32]⟩ + 1) (Lib.countB t ⟨#[32]⟩ + 1)) (pnW t) := by
    refine ⟨⟨⟨by simp, .inr ⟨w.heap.size, Lib.countB t ⟨#[32]⟩ + 1, _, by simp [hl], Nat.le_refl _, heap_alloc_new w _, by simp [hl], by unfold maxLen; omega, ?_, ?_⟩⟩, fun g hg => by simp [Value.ownBlock] at hg; simp; omega⟩, fun x hx => ?_⟩
    · have : (Lib.splitB ⟨#[32]⟩ 0 (Lib.countB t ⟨#[32]⟩) t).length = Lib.countB t ⟨#[32]⟩ + 1 := hl
      simp [this]
    · have : (Lib.splitB ⟨#[32]⟩ 0 (Lib.countB t ⟨#[32]⟩) t).length = Lib.countB t ⟨#[32]⟩ + 1 := hl
      simp [hl]
      exact List.take_of_length_le (by simp [this])
    · obtain ⟨i, hi, rfl⟩ := List.getElem_of_mem hx
      have := pnW_size t i hi
      unfold maxLen; omega
  obtain ⟨g, cap, hv, h1, h2, h3, h4, h5⟩ := O.addr' (by omega)
  exact ⟨g, cap, by rw [hv], h1, h2, h3, h4, h5, (Below.refl _ _).alloc (Nat.le_refl _) _⟩
set_option maxHeartbeats 4000000 in
set_option maxRecDepth 100000 in
theorem implParseNetwork (t : ByteArray) (w : World) (ht : t.size ≤ maxLen) (ht2 : t.size ≤ 1048576) (hT : Tab10 w) (hE : ErrV w) (hsh : w.ShapedOpen Tryd.prog) :
    Calls Tryd.prog 8 #[.string t] w (GivesNB w (nbN (PnP t) (bI t 0)) (nbR (PnP t) (pnR t (pnK t))) (tf (PnP t))) := by
  obtain ⟨i0, hi, hz0, hz1, hz2⟩ := info_parts infoInts
  obtain ⟨d0, d1, f0, f1, _⟩ := ResC.start w 27
  have HSP : Hid (∀ W, Below w.heap.size w W → Calls Tryd.prog 18 #[.string t, .string ⟨#[32]⟩] W fun e w' => ∃ g cap, e = .returned (.slice (some ⟨g, 0, none⟩) (pnW t).length cap) ∧ (pnW t).length ≤ cap ∧ cap ≤ maxLen ∧ W.heap.size ≤ g ∧ g < w'.heap.size ∧ (∀ j (hj : j < (pnW t).length), w'.cell? ⟨g, j, none⟩ = some (.string (pnW t)[j])) ∧ Below W.heap.size W w') := fun W hb => splitC t W ht2 (shaped_below hsh hb)
  have HPI : Hid (∀ (s : ByteArray) W, s.size ≤ t.size → Below w.heap.size w W → Calls Tryd.prog 6 #[.string s] W (GivesIB W (piN s) (tf (PiP s)))) := fun s W hs hb => implParseInt s W (by unfold maxLen; omega) (by omega) (hT.below hb) (hE.below hb)
  have HCU : Hid (∀ (s : ByteArray) W, s.size ≤ t.size → Below w.heap.size w W → Calls Tryd.prog 20 #[.string s, .string ⟨#[45]⟩] W fun e w' => ∃ b : Bool, e = .returned (.tuple #[.string (cutA s), .string (cutC s), .bool b]) ∧ Below W.heap.size W w') := fun s W hs hb => (Tryd.strings_Cut_shaped s ⟨#[45]⟩ W (shaped_below hsh hb) (by omega)).mono (by rintro e w' ⟨rfl, n, rfl⟩; exact ⟨_, rfl, below_drewN (Below.refl _ _) _⟩)
  have HTR : Hid (∀ (s : ByteArray) W, s.size ≤ t.size → Calls Tryd.prog 19 #[.string s, .string ⟨#[58]⟩] W fun e w' => e = .returned (.string (trimC s)) ∧ w' = W) := fun s W hs => (Tryd.strings_TrimSuffix s ⟨#[58]⟩ W (by omega)).mono (by rintro e w' ⟨rfl, rfl⟩; exact ⟨rfl, rfl⟩)
  clear hT hE hsh
  unfold maxLen at ht
  have hy0 : w.heap.size < (w.alloc (.cells #[.int .i64 0, .slice none 0 0] 27)).heap.size := by simp
  have bz : Below w.heap.size w (w.alloc (.cells #[.int .i64 0, .slice none 0 0] 27)) := (Below.refl _ _).alloc (Nat.le_refl _) _
  have HRD := Lib.hid (fun h : PnP t => h.read)
  have HWD := Lib.hid (fun h : PnP t => h.words)
  have HSZ : Hid (∀ j (hj : j < (pnW t).length), (pnW t)[j].size ≤ t.size) := fun j hj => pnW_size t j hj
  obtain ⟨K, hK⟩ : ∃ K, (pnW t).length = K + 1 := ⟨_, pnW_len t⟩
  have hKt : K ≤ t.size := by have := countB_le t; omega
  obtain ⟨W, HW⟩ : ∃ W, W = pnW t := ⟨_, rfl⟩
  have HTL : Hid (pnW t = W) := HW.symm
  rw [← HW] at HSP hK HRD HWD HSZ
  clear HW
  go_enter Tryd.func8, Tryd.ntmps8
  go_wp2_with fail
  refine (HSP.out _ bz).mono ?_; rintro e w1 ⟨g, cap, rfl, hcap, hmax, hg1, hg2, hcell, b1⟩
  replace d0 := Below.keeps b1 _ _ d0
  replace d1 := Below.keeps b1 _ _ d1
  replace f0 := (b1.frozen (p := ⟨w.heap.size, 0, none⟩) hy0).trans f0
  replace f1 := (b1.frozen (p := ⟨w.heap.size, 1, none⟩) hy0).trans f1
  replace hy0 : w.heap.size < w1.heap.size := Nat.lt_of_lt_of_le hy0 b1.size
  have bw1 : Below w.heap.size w w1 := bz.trans (b1.mono (by simp))
  unfold maxLen at hmax
  rw [hK] at hcap ⊢
  have c0 := hcell 0 (by omega)
  obtain ⟨p0, HP0⟩ : ∃ p, Hid (W[0]'(by omega) = p) := ⟨W[0]'(by omega), rfl⟩
  rw [HP0.out] at c0
  have hs0 : p0.size ≤ t.size := by rw [← HP0.out]; exact HSZ.out 0 (by omega)
  have ht0 : (trimC p0).size ≤ t.size := Nat.le_trans (trimC_size p0) hs0
  have e00 : Hid (W[0]? = some p0) := by
    show _ = _
    rw [List.getElem?_eq_getElem (by omega), HP0.out]
  have HC : Hid (∀ j (hj : j < K), w1.cell? ⟨g, 1 + j, none⟩ = some (.string (W[j + 1]'(by omega)))) := fun j hj => by
    rw [Nat.add_comm 1 j]; exact hcell (j + 1) (by omega)
  have hgy : w.heap.size < g := by simp at hg1; omega
  clear hcell bz b1 hg1
  go_wp2_with fail
  refine (HTR.out p0 _ hs0).mono ?_; rintro e w2 ⟨rfl, rfl⟩
  go_wp2_with fail
  refine (HPI.out (trimC p0) _ ht0 bw1).mono ?_; rintro e w3 ⟨rfl, b3⟩
  replace d0 := Below.keeps b3 _ _ d0
  replace d1 := Below.keeps b3 _ _ d1
  replace f0 := (b3.frozen (p := ⟨w.heap.size, 0, none⟩) hy0).trans f0
  replace f1 := (b3.frozen (p := ⟨w.heap.size, 1, none⟩) hy0).trans f1
  replace hy0 : w.heap.size < w3.heap.size := Nat.lt_of_lt_of_le hy0 b3.size
  have bw3 := bw1.trans (b3.mono bw1.size)
  by_cases hq : PiP (trimC p0)
  · rw [tf_yes hq]
    have hnin := hq.in64
    obtain ⟨n, HNN⟩ : ∃ n, Hid (piN (trimC p0) = n) := ⟨_, rfl⟩
    rw [HNN.out] at hnin ⊢
    clear hq
    have HC3 : Hid (∀ j (hj : j < K), w3.cell? ⟨g, 1 + j, none⟩ = some (.string (W[j + 1]'(by omega)))) := fun j hj => Below.keeps b3 _ _ (HC.out j hj)
    have hg3 : g < w3.heap.size := Nat.lt_of_lt_of_le hg2 b3.size
    clear HC hg2 b3 bw1 c0
    have hA := NetIn.start w3 n 27
    have sW : (w3.alloc (.cells #[.int .i64 n, .slice none 0 0] 27)).heap.size = w3.heap.size + 1 := by simp
    have bA : Below w3.heap.size w3 (w3.alloc (.cells #[.int .i64 n, .slice none 0 0] 27)) := (Below.refl _ _).alloc (Nat.le_refl _) _
    go_wp2
    all_goals
      obtain ⟨W1, HW1⟩ : ∃ X, Hid (X = w3.alloc (.cells #[.int .i64 n, .slice none 0 0] 27)) := ⟨_, rfl⟩
      rw [← HW1.out] at hA sW bA ⊢
      clear HW1
      have HHA := Lib.hid hA
      have HD0 := Lib.hid d0
      have HD1 := Lib.hid d1
      have HF0 := Lib.hid f0
      have HF1 := Lib.hid f1
      have HBA := Lib.hid bA
      have HBW := Lib.hid bw3
      have hTL : W.tail.length = K := by rw [List.length_tail]; omega
      have HTLL := Lib.hid hTL
      clear hA d0 d1 f0 f1 bA bw3 hTL HSP HTR
      go_loopw [35] (fun i wr => ∃ (k : Nat) (u : Value), k ≤ K ∧ i = .int .i64 k ∧ Hid (NetIn w3.heap.size (w3.heap.size + 1) n (pnQ (W.tail.take k)) wr u) ∧ Hid (Kept w3.heap.size (w3.heap.size + 1) W1 wr)) (fun i _ => K - (intOf i).toNat)
      case atStart => exact ⟨0, _, Nat.zero_le _, rfl, HHA.out, Kept.refl _ _ _ (by omega)⟩
      case round =>
        obtain ⟨k, u, hk9, rfl, HN, HK⟩ := hrel
        have hbw : Below w.heap.size w wr := HBW.out.trans ((HBA.out.trans (HK.out.1.mono (Nat.le_refl _))).mono HBW.out.size)
        have hlo9 : w3.heap.size + 1 ≤ wr.heap.size := HN.out.2.2.2.2.2
        by_cases hlt : k < K
        · first
          | (exfalso; omega)
          | (skip
             have hkk : k + 1 < W.length := by omega
             have cw : wr.cell? ⟨g, 1 + k, none⟩ = some (.string (W[k + 1]'hkk)) := (HK.out.1.cell (p := ⟨g, 1 + k, none⟩) hg3).trans ((HBA.out.cell (p := ⟨g, 1 + k, none⟩) hg3).trans (HC3.out k hlt))
             have HUW : Hid (W[k + 1]? = some (W[k + 1]'hkk)) := List.getElem?_eq_getElem hkk
             have hsu := HSZ.out (k + 1) hkk
             have HNX : Hid (pnQ (W.tail.take (k + 1)) = pnQ (W.tail.take k) ++ [[piN (cutA (W[k + 1]'hkk)), piN (cutC (W[k + 1]'hkk))]]) := by
               have h9 : k < W.tail.length := by rw [HTLL.out]; exact hlt
               have e9 : W.tail[k] = W[k + 1] := List.getElem_tail h9
               have := pnQ_next W.tail k h9
               rwa [e9] at this
             generalize W[k + 1] = q at *
             have hsa : (cutA q).size ≤ t.size := Nat.le_trans (cutA_size q) hsu
             have hsc : (cutC q).size ≤ t.size := Nat.le_trans (cutC_size q) hsu
             go_wp2_with fail
             refine (HCU.out q wr hsu hbw).mono ?_; rintro e w4 ⟨fb, rfl, b4⟩
             have hbw4 := hbw.trans (b4.mono hbw.size)
             go_wp2_with fail
             refine (HPI.out (cutA q) w4 hsa hbw4).mono ?_; rintro e w6 ⟨rfl, b6⟩
             have hbw6 := hbw4.trans (b6.mono hbw4.size)
             have b46 := b4.trans (b6.mono b4.size)
             clear b4 b6
             go_wp2_with fail
             refine (HPI.out (cutC q) w6 hsc hbw6).mono ?_; rintro e w5 ⟨rfl, b5⟩
             have hbw5 := hbw6.trans (b5.mono hbw6.size)
             have b45 := b46.trans (b5.mono b46.size)
             have N5 := HN.out.below b45
             have K5 : Kept w3.heap.size (w3.heap.size + 1) W1 w5 := HK.out.up b45 (by omega) hlo9
             have HN := Lib.hid N5
             have HK := Lib.hid K5
             have s5 := b45.size
             clear b46 b5 hbw6 hbw4 N5 K5 b45 cw
             by_cases hq : PiP (cutA q) ∧ PiP (cutC q)
             · rw [tf_yes hq.1, tf_yes hq.2]
               have hw1 := hq.1.in64
               have hw2 := hq.2.in64
               generalize piN (cutA q) = pa at *
               generalize piN (cutC q) = pb at *
               have HD := HNX
               clear hq HNX
               obtain ⟨⟨vs, hO, hR⟩, cn, cu2, cf2, hB, hlo⟩ := HN.out
               have HO := Lib.hid hO
               have HW := Lib.hid hR
               have HU : Hid (∀ g, g < w3.heap.size + 1 → some g ≠ u.ownBlock) := fun g hg e => by have := HO.out.lt e.symm; omega
               have hvl : vs.length ≤ 1048577 := by
                 have := HW.out.1
                 rw [pnQ_length, List.length_take] at this; omega
               have hB2 : w3.heap.size < w5.heap.size := by omega
               have hB3 : w3.heap.size < w5.heap.size + 1 := by omega
               clear hO hR HN
               go_wp2_with (at_builtin; refine wpList_append_lies _ rfl _ _ 25 rfl (w3.heap.size + 1) tInts i0 (.slice none 0 0) 1 24 Tryd.underlying25 hi hz0 hz1 hz2 rfl (by decide) u vs.length vs rfl (HO.out.1.alloc _ |>.alloc _) ⟨w5.heap.size + 1, 0, none⟩ 1 1 [.slice (some ⟨w5.heap.size, 0, none⟩) 2 2] rfl rfl (pn_news _ _ _ _) (by simp [Value.oneCell']) (by decide) (by unfold maxLen; omega) (by omega) (by simp; omega) (w5.heap.size + 2) (by simp) ?_; intro g9 cap2 w9 hown hgrow hat hlt2; have zz := after_new (pn_below _ _ _) hgrow cu2 cf2 (HU.out _ (by first | (simp; done) | (simp; omega))); obtain ⟨z1, z2⟩ := zz)
               all_goals
                 obtain ⟨P, Q⟩ := NetIn.push (n := n) HO.out HW.out cn cu2 cf2 hB hlo (pn_below _ _ _) (pn_pair _ _ _ hw1 hw2 _) (by simp) hown hgrow HK.out
                 rw [← HD.out] at P
                 clear hown hgrow hat hlt2 z1 z2 HO HW
                 go_roundw
                 case rel => exact ⟨k + 1, _, by omega, by go_num, Lib.hid P, Lib.hid Q⟩
                 case measure => first | (simp [intOf]; done) | (simp [intOf]; omega)
             · have HPP : Hid (¬ PnP t) := fun h => hq ((HWD.out h).2 k q HUW.out)
               have y5 : w.heap.size < w5.heap.size := by omega
               obtain ⟨e0, e1⟩ : w5.cell? ⟨w.heap.size, 0, none⟩ = some (.int .i64 0) ∧ w5.cell? ⟨w.heap.size, 1, none⟩ = some (.slice none 0 0) :=
                 ⟨(HK.out.1.cell (p := ⟨w.heap.size, 0, none⟩) hy0).trans ((HBA.out.cell (p := ⟨w.heap.size, 0, none⟩) hy0).trans HD0.out), (HK.out.1.cell (p := ⟨w.heap.size, 1, none⟩) hy0).trans ((HBA.out.cell (p := ⟨w.heap.size, 1, none⟩) hy0).trans HD1.out)⟩
               obtain ⟨g0, g1⟩ : w5.frozen? ⟨w.heap.size, 0, none⟩ = false ∧ w5.frozen? ⟨w.heap.size, 1, none⟩ = false :=
                 ⟨(HK.out.1.frozen (p := ⟨w.heap.size, 0, none⟩) hy0).trans ((HBA.out.frozen (p := ⟨w.heap.size, 0, none⟩) hy0).trans HF0.out), (HK.out.1.frozen (p := ⟨w.heap.size, 1, none⟩) hy0).trans ((HBA.out.frozen (p := ⟨w.heap.size, 1, none⟩) hy0).trans HF1.out)⟩
               clear HN HK
               by_cases h1 : PiP (cutA q)
               · have h2 : ¬ PiP (cutC q) := fun h => hq ⟨h1, h⟩
                 rw [tf_yes h1, tf_no h2]
                 clear hq h1 h2
                 go_wp2
                 exact bodyPost_ret (v := .tuple #[.agg #[.int .i64 0, .slice none 0 0], .bool false]) (by simp [results, Tryd.results8, go_sem, e0, e1]) rfl (by rw [nbN_no HPP.out, nbR_no HPP.out, tf_no HPP.out]; exact ⟨_, rfl, OwnSS.nil _ _ _ _ _, (hbw5.setCell (by simp) _).setCell (by simp) _⟩)

               · rw [tf_no h1]
                 clear hq h1
                 go_wp2
                 exact bodyPost_ret (v := .tuple #[.agg #[.int .i64 0, .slice none 0 0], .bool false]) (by simp [results, Tryd.results8, go_sem, e0, e1]) rfl (by rw [nbN_no HPP.out, nbR_no HPP.out, tf_no HPP.out]; exact ⟨_, rfl, OwnSS.nil _ _ _ _ _, (hbw5.setCell (by simp) _).setCell (by simp) _⟩)
  )
        · obtain rfl : k = K := by omega
          have hT9 : W.tail.take k = W.tail := List.take_of_length_le (by rw [HTLL.out]; exact Nat.le_refl _)
          rw [hT9] at HN
          have hl9 : (pnQ W.tail).length = k := by rw [pnQ_length, HTLL.out]
          have HRD0 : Hid (PnP t → n = bI t 0 ∧ pnQ W.tail = pnR t (pnK t)) := fun h => ⟨by rw [← HNN.out]; exact (HRD.out h).1 p0 e00.out, (HRD.out h).2⟩
          obtain ⟨rows, HRO⟩ : ∃ rows, Hid (pnQ W.tail = rows) := ⟨_, rfl⟩
          rw [HRO.out] at HN hl9 HRD0
          clear hT9 hlt
          obtain ⟨hR, cn, cu, cf, hB, hlo⟩ := HN.out
          have e0 := (HK.out.1.cell (p := ⟨w.heap.size, 0, none⟩) hy0).trans ((HBA.out.cell (p := ⟨w.heap.size, 0, none⟩) hy0).trans HD0.out)
          have e1 := (HK.out.1.cell (p := ⟨w.heap.size, 1, none⟩) hy0).trans ((HBA.out.cell (p := ⟨w.heap.size, 1, none⟩) hy0).trans HD1.out)
          have g0 := (HK.out.1.frozen (p := ⟨w.heap.size, 0, none⟩) hy0).trans ((HBA.out.frozen (p := ⟨w.heap.size, 0, none⟩) hy0).trans HF0.out)
          have g1 := (HK.out.1.frozen (p := ⟨w.heap.size, 1, none⟩) hy0).trans ((HBA.out.frozen (p := ⟨w.heap.size, 1, none⟩) hy0).trans HF1.out)
          have hyr : w.heap.size < wr.heap.size := by omega
          obtain ⟨a3, l3, c3, hu⟩ := hR.shape
          subst hu
          have HR := Lib.hid hR
          have hIk : Hid (∀ X, Below wr.heap.size wr X → IntSS X (.slice a3 l3 c3) rows) := fun X hb => hR.intss.keep (Below.keeps hb)
          have HF := Lib.hid (implFormatNetwork' n (.slice a3 l3 c3) rows wr hnin (hIk.out _ (Below.refl _ _)))
          clear hR HN
          by_cases hF : fmtT n rows = t
          · have hst : ((fmtT n rows).toList == t.toList) = true := by rw [strq', hF]; simp
            go_wp2_with fail
            refine HF.out.mono ?_; rintro e w5 ⟨rfl, b5⟩
            have s5 := b5.size
            have cn5 := Below.keeps b5 _ _ cn
            have cu5 := Below.keeps b5 _ _ cu
            have HCK := Lib.hid (checkedC n (.slice a3 l3 c3) rows w5 (hIk.out _ b5))
            by_cases hNP : NetP n rows
            · rw [tf_yes hNP] at HCK
              obtain ⟨q1, q2, q3⟩ := pn_found hNP hF
              have HPP := Lib.hid q1
              have HQ2 := Lib.hid q2
              have HQ3 := Lib.hid q3
              clear q1 q2 q3 hF hNP
              go_wp2_with fail
              refine HCK.out.mono ?_; rintro e w7 ⟨rfl, b7⟩
              have b57 := b5.trans (b7.mono s5)
              replace e0 := Below.keeps b57 _ _ e0
              replace e1 := Below.keeps b57 _ _ e1
              replace g0 := (b57.frozen (p := ⟨w.heap.size, 0, none⟩) hyr).trans g0
              replace g1 := (b57.frozen (p := ⟨w.heap.size, 1, none⟩) hyr).trans g1
              have hbw7 := hbw.trans (b57.mono hbw.size)
              have s57 := b57.size
              obtain ⟨RR, BB⟩ := ((HR.out.below b57 (Nat.le_refl _)).wide (Nat.le_refl _) s57).res (R := w.heap.size) (x := .int .i64 n) (y := .slice a3 l3 c3) (by omega) hbw7 (Nat.le_refl _)
              clear b5 b7 b57 HR hIk HCK cn5 cu5 cn cu
              go_wp2
              exact bodyPost_ret (v := .tuple #[.agg #[.int .i64 n, .slice a3 l3 c3], .bool true]) (by simp [results, Tryd.results8, go_sem, e0, e1]) rfl (by rw [nbN_yes HPP.out, nbR_yes HPP.out, tf_yes HPP.out, HQ2.out, HQ3.out]; exact ⟨_, rfl, RR, BB⟩)
            · rw [tf_no hNP] at HCK
              have HPP : Hid (¬ PnP t) := fun h => by
                have h1 := h.1
                rw [fmtT_no hNP] at hF
                rw [← hF] at h1
                exact absurd h1.1 (by decide)
              clear hF hNP
              go_wp2_with fail
              refine HCK.out.mono ?_; rintro e w7 ⟨rfl, b7⟩
              have b57 := b5.trans (b7.mono s5)
              replace e0 := Below.keeps b57 _ _ e0
              replace e1 := Below.keeps b57 _ _ e1
              replace g0 := (b57.frozen (p := ⟨w.heap.size, 0, none⟩) hyr).trans g0
              replace g1 := (b57.frozen (p := ⟨w.heap.size, 1, none⟩) hyr).trans g1
              have hbw7 := hbw.trans (b57.mono hbw.size)
              have s57 := b57.size
              clear b5 b7 b57 HR hIk HCK cn5 cu5 cn cu
              go_wp2
              exact bodyPost_ret (v := .tuple #[.agg #[.int .i64 0, .slice none 0 0], .bool false]) (by simp [results, Tryd.results8, go_sem, e0, e1]) rfl (by rw [nbN_no HPP.out, nbR_no HPP.out, tf_no HPP.out]; exact ⟨_, rfl, OwnSS.nil _ _ _ _ _, (hbw7.setCell (by simp) _).setCell (by simp) _⟩)

          · have hst : ((fmtT n rows).toList == t.toList) = false := by rw [strq']; exact decide_eq_false hF
            have HPP : Hid (¬ PnP t) := fun h => hF (by
              obtain ⟨h1, h2⟩ := HRD0.out h
              rw [h1, h2]; exact h.2.2)
            clear hF
            go_wp2_with fail
            refine HF.out.mono ?_; rintro e w7 ⟨rfl, b57⟩
            replace e0 := Below.keeps b57 _ _ e0
            replace e1 := Below.keeps b57 _ _ e1
            replace g0 := (b57.frozen (p := ⟨w.heap.size, 0, none⟩) hyr).trans g0
            replace g1 := (b57.frozen (p := ⟨w.heap.size, 1, none⟩) hyr).trans g1
            have hbw7 := hbw.trans (b57.mono hbw.size)
            have s57 := b57.size
            clear b57 HR hIk cn cu
            go_wp2
            exact bodyPost_ret (v := .tuple #[.agg #[.int .i64 0, .slice none 0 0], .bool false]) (by simp [results, Tryd.results8, go_sem, e0, e1]) rfl (by rw [nbN_no HPP.out, nbR_no HPP.out, tf_no HPP.out]; exact ⟨_, rfl, OwnSS.nil _ _ _ _ _, (hbw7.setCell (by simp) _).setCell (by simp) _⟩)

  · have HPP : Hid (¬ PnP t) := fun h => hq ((HWD.out h).1 p0 e00.out)
    rw [tf_no hq]
    clear hq
    go_wp2
    exact bodyPost_ret (v := .tuple #[.agg #[.int .i64 0, .slice none 0 0], .bool false]) (by simp [results, Tryd.results8, go_sem, d0, d1]) rfl (by rw [nbN_no HPP.out, nbR_no HPP.out, tf_no HPP.out]; exact ⟨_, rfl, OwnSS.nil _ _ _ _ _, (bw3.setCell (by simp) _).setCell (by simp) _⟩)

end Go.Proofs.YtpgccaibcpiakaaDoor
