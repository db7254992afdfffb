/- Contracts: SameNetwork, the program's and the reference's. -/
import Derived.Test.YtncjhoohehfndaaFmtN
import Derived.Test.YtncjhoohehfndaaShelfEq
namespace Go.Proofs.Ytncjhoohehfndaa
open Go.RowKit
set_option linter.unusedVariables false

def SnP (n1 : Int) (r1 : List (List Int)) (n2 : Int) (r2 : List (List Int)) : Prop := NetP n1 r1 ∧ NetP n2 r2 ∧ n1 = n2 ∧ pairsOf r1 = pairsOf r2
theorem dgB_inj {a b : Nat} (ha : a < 10) (hb : b < 10) (h : UInt8.ofNat (48 + a) = UInt8.ofNat (48 + b)) : a = b := by
  have := congrArg UInt8.toNat h
  rw [dg_toNat a ha, dg_toNat b hb] at this; omega
theorem fmtP_ten {p : Nat × Nat} (h : p.1 < 10 ∧ p.2 < 10) : fmtP p = [32, UInt8.ofNat (48 + p.1), 45, UInt8.ofNat (48 + p.2)] := by
  unfold fmtP; rw [decDigits_small h.1, decDigits_small h.2]; rfl
theorem fmtPs_inj : ∀ (ps qs : List (Nat × Nat)), (∀ p ∈ ps, p.1 < 10 ∧ p.2 < 10) → (∀ p ∈ qs, p.1 < 10 ∧ p.2 < 10) → ps.flatMap fmtP = qs.flatMap fmtP → ps = qs := by
  intro ps
  induction ps with
  | nil =>
    intro qs _ h2 h
    cases qs with
    | nil => rfl
    | cons q qs => rw [List.flatMap_cons, fmtP_ten (h2 q (by simp))] at h; simp at h
  | cons p ps ih =>
    intro qs h1 h2 h
    cases qs with
    | nil => rw [List.flatMap_cons, fmtP_ten (h1 p (by simp))] at h; simp at h
    | cons q qs =>
      have hp := h1 p (by simp)
      have hq := h2 q (by simp)
      rw [List.flatMap_cons, List.flatMap_cons, fmtP_ten hp, fmtP_ten hq] at h
      simp only [List.cons_append, List.nil_append, List.cons.injEq, true_and] at h
      obtain ⟨e1, e2, e3⟩ := h
      have := ih qs (fun x hx => h1 x (by simp [hx])) (fun x hx => h2 x (by simp [hx])) e3
      have a1 := dgB_inj hp.1 hq.1 e1
      have a2 := dgB_inj hp.2 hq.2 e2
      rw [this]
      congr 1
      exact Prod.ext a1 a2
theorem fmtT_inj {n1 n2 : Int} {r1 r2 : List (List Int)} (h1 : NetP n1 r1) (h2 : NetP n2 r2) (h : fmtT n1 r1 = fmtT n2 r2) : n1 = n2 ∧ pairsOf r1 = pairsOf r2 := by
  obtain ⟨N, rfl, _, p1⟩ := id h1.pairs
  obtain ⟨M, rfl, _, p2⟩ := id h2.pairs
  rw [fmtT_yes h1, fmtT_yes h2] at h
  have h := congrArg (fun s : ByteArray => s.data.toList) h
  simp only [fmtB_list] at h
  unfold fmtL at h
  have hN := p1.2.1
  have hM := p2.2.1
  rw [decDigits_small (by omega), decDigits_small (by omega)] at h
  simp only [List.cons_append, List.nil_append, List.cons.injEq, true_and] at h
  have t1 := p1.ten (pairsOf r1).length
  have t2 := p2.ten (pairsOf r2).length
  rw [List.take_length] at t1 t2
  have := dgB_inj (by omega) (by omega) h.1
  exact ⟨by omega, fmtPs_inj _ _ t1 t2 h.2⟩
theorem fmt_same {n1 n2 : Int} {r1 r2 : List (List Int)} (h1 : NetP n1 r1) (h2 : NetP n2 r2) : tf (SnP n1 r1 n2 r2) = decide (fmtT n1 r1 = fmtT n2 r2) := by
  by_cases h : fmtT n1 r1 = fmtT n2 r2
  · rw [decide_eq_true h]; exact tf_yes ⟨h1, h2, fmtT_inj h1 h2 h⟩
  · rw [decide_eq_false h]
    refine tf_no fun hs => h ?_
    obtain ⟨_, _, hn, hp⟩ := hs
    subst hn
    obtain ⟨N, rfl, _, _⟩ := h1.pairs
    rw [fmtT_yes h1, fmtT_yes h2, hp]

theorem strB_eq (s t : ByteArray) : (s.toList == t.toList) = decide (s = t) := by
  rw [ByteArray.toList_eq, ByteArray.toList_eq]
  by_cases h : s = t
  · subst h; simp
  · have : ¬ s.data.toList = t.data.toList := fun e => h (bytes_eq e)
    simp [h]
    exact fun e => this (by rw [e])
set_option maxHeartbeats 1600000 in
theorem specSameNetwork (n1 : Int) (v1 : Value) (r1 : List (List Int)) (n2 : Int) (v2 : Value) (r2 : List (List Int)) (w : World) (h1 : (Lit.int .i64 n1).wf = true) (I1 : IntSS w v1 r1) (hl1 : r1.length + sumLen r1 ≤ 1048576) (h2 : (Lit.int .i64 n2).wf = true) (I2 : IntSS w v2 r2) (hl2 : r2.length + sumLen r2 ≤ 1048576) :
    Calls Try.prog 17 #[.agg #[.int .i64 n1, v1], .agg #[.int .i64 n2, v2]] w (GivesB w (tf (SnP n1 r1 n2 r2))) := by
  have hk1 : Hid (∀ W, Below w.heap.size w W → IntSS W v1 r1) := fun W hb => I1.keep (Below.keeps hb)
  have hk2 : Hid (∀ W, Below w.heap.size w W → IntSS W v2 r2) := fun W hb => I2.keep (Below.keeps hb)
  obtain ⟨ao1, cap1, hv1, _⟩ := I1
  obtain ⟨ao2, cap2, hv2, _⟩ := I2
  subst hv1
  subst hv2
  obtain ⟨W0, HW0⟩ : ∃ W0, Hid (W0 = ((w.alloc (.cells #[.int .i64 n1, .slice ao1 r1.length cap1] 26)).alloc (.cells #[.int .i64 n2, .slice ao2 r2.length cap2] 26))) := ⟨_, rfl⟩
  have BB : Below w.heap.size w W0 := by rw [HW0.out]; exact ((Below.refl _ _).alloc (by simp) _).alloc (by simp) _
  have ca1 : W0.cell? ⟨w.heap.size, 0, none⟩ = some (.int .i64 n1) := by rw [HW0.out]; simp [go_sem]
  have cb1 : W0.cell? ⟨w.heap.size, 1, none⟩ = some (.slice ao1 r1.length cap1) := by rw [HW0.out]; simp [go_sem]
  have ca2 : W0.cell? ⟨w.heap.size + 1, 0, none⟩ = some (.int .i64 n2) := by rw [HW0.out]; simp [go_sem]
  have cb2 : W0.cell? ⟨w.heap.size + 1, 1, none⟩ = some (.slice ao2 r2.length cap2) := by rw [HW0.out]; simp [go_sem]
  have hz0 : w.heap.size < W0.heap.size := World.block_lt_of_cell? W0 _ ca1
  have hz1 : w.heap.size + 1 < W0.heap.size := World.block_lt_of_cell? W0 _ ca2
  have HK1 : Hid (∀ x, Calls Try.prog 24 #[.agg #[.int .i64 n1, .slice ao1 r1.length cap1]] (up W0 x) fun e w' => e = .returned (.bool (tf (NetP n1 r1))) ∧ ∃ y, w' = up W0 y) := fun x => up_calls (specNetworkOk _ _ r1 _ (hk1.out _ (BB.trans ((up_below W0 x).mono BB.size))))
  have HK2 : Hid (∀ x, Calls Try.prog 24 #[.agg #[.int .i64 n2, .slice ao2 r2.length cap2]] (up W0 x) fun e w' => e = .returned (.bool (tf (NetP n2 r2))) ∧ ∃ y, w' = up W0 y) := fun x => up_calls (specNetworkOk _ _ r2 _ (hk2.out _ (BB.trans ((up_below W0 x).mono BB.size))))
  have HF1 : Hid (∀ x, Calls Try.prog 31 #[.agg #[.int .i64 n1, .slice ao1 r1.length cap1]] (up W0 x) fun e w' => e = .returned (.string (fmtT n1 r1)) ∧ ∃ y, w' = up W0 y) := fun x => up_calls (specFormatNetwork _ _ r1 _ h1 (hk1.out _ (BB.trans ((up_below W0 x).mono BB.size))) hl1)
  have HF2 : Hid (∀ x, Calls Try.prog 31 #[.agg #[.int .i64 n2, .slice ao2 r2.length cap2]] (up W0 x) fun e w' => e = .returned (.string (fmtT n2 r2)) ∧ ∃ y, w' = up W0 y) := fun x => up_calls (specFormatNetwork _ _ r2 _ h2 (hk2.out _ (BB.trans ((up_below W0 x).mono BB.size))) hl2)
  have key : ∀ wq, Below W0.heap.size W0 wq → Below w.heap.size w wq := fun wq hbq => BB.trans (hbq.mono BB.size)
  have KEY := Lib.hid key
  clear key h1 h2 hl1 hl2
  rcases Classical.em (NetP n1 r1) with hN1 | hN1
  · have ht1 := tf_yes hN1
    rw [ht1] at HK1
    rcases Classical.em (NetP n2 r2) with hN2 | hN2
    · have ht2 := tf_yes hN2
      rw [ht2] at HK2
      have HE := Lib.hid (fmt_same hN1 hN2)
      clear hN1 hN2 ht1 ht2
      go_enter Try.func17, Try.ntmps17
      go_wp2
      rw [← HW0.out]
      clear HW0
      refine wp_region_up_lit (by kernel_rfl) (by kernel_rfl) ?_
      repeat (go_big_quiet_step ((first | (go_at_call 24; with_reducible exact HK1.out _) | (go_at_call 24; with_reducible exact HK2.out _) | (go_at_call 31; with_reducible exact HF1.out _) | (go_at_call 31; with_reducible exact HF2.out _))))
      refine up_end ?_
      intro wq hbq
      go_wp2
      go_ret
      exact ⟨ret_bool (by rw [HE.out]; exact strB_eq _ _), KEY.out _ hbq⟩
    · have ht2 := tf_no hN2
      rw [ht2] at HK2
      have HE := Lib.hid (tf_no (p := SnP n1 r1 n2 r2) (fun h => hN2 h.2.1))
      clear hN1 hN2 ht1 ht2
      go_enter Try.func17, Try.ntmps17
      go_wp2
      rw [← HW0.out]
      clear HW0
      refine wp_region_up_lit (by kernel_rfl) (by kernel_rfl) ?_
      repeat (go_big_quiet_step ((first | (go_at_call 24; with_reducible exact HK1.out _) | (go_at_call 24; with_reducible exact HK2.out _))))
      refine up_end ?_
      intro wq hbq
      go_wp2
      go_ret
      exact ⟨ret_bool (by rw [HE.out]), KEY.out _ hbq⟩
  · have ht1 := tf_no hN1
    rw [ht1] at HK1
    have HE := Lib.hid (tf_no (p := SnP n1 r1 n2 r2) (fun h => hN1 h.1))
    clear hN1 ht1
    go_enter Try.func17, Try.ntmps17
    go_wp2
    rw [← HW0.out]
    clear HW0
    refine wp_region_up_lit (by kernel_rfl) (by kernel_rfl) ?_
    repeat (go_big_quiet_step ((go_at_call 24; with_reducible exact HK1.out _)))
    refine up_end ?_
    intro wq hbq
    go_wp2
    go_ret
    exact ⟨ret_bool (by rw [HE.out]), KEY.out _ hbq⟩
theorem eqPair (x1 o1 c1 x2 o2 c2 : Nat) (p q : Nat × Nat) (w : World) (h1 : w.cell? ⟨x1, o1, none⟩ = some (.int .i64 p.1)) (h2 : w.cell? ⟨x1, o1 + 1, none⟩ = some (.int .i64 p.2)) (h3 : w.cell? ⟨x2, o2, none⟩ = some (.int .i64 q.1)) (h4 : w.cell? ⟨x2, o2 + 1, none⟩ = some (.int .i64 q.2)) :
    Calls Try.prog 33 #[.slice (some ⟨x1, o1, none⟩) 2 c1, .slice (some ⟨x2, o2, none⟩) 2 c2] w fun e w' => e = .returned (.bool (decide (p = q))) ∧ ∃ n, w' = w.drewN n := by
  have two : ∀ (a b : Int) (x o : Nat), w.cell? ⟨x, o, none⟩ = some (.int .i64 a) → w.cell? ⟨x, o + 1, none⟩ = some (.int .i64 b) → ∀ j, j < [a, b].length → w.cell? ⟨x, o + j, none⟩ = some (.int .i64 ([a, b].getD j 0)) := fun a b x o ha hb j hj => by
    rcases (by simp at hj; omega : j = 0 ∨ j = 1) with rfl | rfl
    · exact ha
    · exact hb
  refine (Try.slices_Equal_int x1 o1 2 c1 x2 o2 2 c2 [(p.1 : Int), (p.2 : Int)] [(q.1 : Int), (q.2 : Int)] w (by simp) (by simp) (by omega) (by omega) (two _ _ _ _ h1 h2) (two _ _ _ _ h3 h4)).mono ?_
  rintro e w' ⟨rfl, n, hw⟩
  refine ⟨ret_bool ?_, n, hw⟩
  obtain ⟨a, b⟩ := p
  obtain ⟨c, d⟩ := q
  by_cases h : a = c ∧ b = d
  · obtain ⟨rfl, rfl⟩ := h; simp
  · have h2 : ¬ ((a : Int) = (c : Int) ∧ (b : Int) = (d : Int)) := by omega
    have h3 : ¬ ((a, b) = (c, d)) := fun e => h ⟨congrArg Prod.fst e, congrArg Prod.snd e⟩
    rw [decide_eq_false h3]
    simp
    intro h4 h5
    exact h2 ⟨by omega, by omega⟩
set_option maxHeartbeats 800000 in
theorem eqRowsF (v1 v2 : Value) (p1 p2 : List (Nat × Nat)) (w : World) (h1 : IntSS w v1 (rowsOf p1)) (h2 : IntSS w v2 (rowsOf p2)) :
    Calls Try.prog 32 #[v1, v2, .func (.func 33) #[] #[]] w fun e w' => e = .returned (.bool (tf (p1 = p2))) ∧ ∃ n, w' = w.drewN n := by
  obtain ⟨ao, cap, rfl, hcap, hmax, hnil, hcell⟩ := pairs_open h1
  obtain ⟨ao2, cap2, rfl, hcap2, hmax2, hnil2, hcell2⟩ := pairs_open h2
  have HC := Lib.hid hcell; clear hcell h1
  have HC2 := Lib.hid hcell2; clear hcell2 h2
  unfold maxLen at hmax hmax2
  by_cases hl : p1.length = p2.length
  · have HL := Lib.hid hl
    have hne : ((p1.length : Int) != (p2.length : Int)) = false := by simp [hl]
    clear hl
    go_enter Try.func32, Try.ntmps32
    go_wp2
    go_loopw [17] (fun i wr => ∃ k : Nat, k ≤ p1.length ∧ i = .int .i64 k ∧ Hid (p1.take k = p2.take k) ∧ ∃ n, Hid (wr = w.drewN n)) (fun i _ => p1.length - (intOf i).toNat)
    case atStart => exact ⟨0, Nat.zero_le _, rfl, rfl, 0, rfl⟩
    case round =>
      obtain ⟨k, hk, rfl, HT, n, HW⟩ := hrel
      by_cases hlt : k < p1.length
      · have hlt2 : k < p2.length := by have := HL.out; omega
        obtain ⟨b, o, x, po, pc, rfl, hu, g1, g2, d0, d1⟩ := HC.out k hlt
        obtain ⟨b2, o2, x2, po2, pc2, rfl, hu2, g12, g22, d02, d12⟩ := HC2.out k hlt2
        have c1 : wr.cell? ⟨b, o + k, none⟩ = some (.slice (some ⟨x, po, none⟩) 2 pc) := by rw [HW.out]; exact hu
        have c2 : wr.cell? ⟨b2, o2 + k, none⟩ = some (.slice (some ⟨x2, po2, none⟩) 2 pc2) := by rw [HW.out]; exact hu2
        have HQ := Lib.hid (eqPair x po pc x2 po2 pc2 p1[k] p2[k] wr (by rw [HW.out]; exact d0) (by rw [HW.out]; exact d1) (by rw [HW.out]; exact d02) (by rw [HW.out]; exact d12))
        clear hu hu2 d0 d1 d02 d12
        by_cases he : p1[k] = p2[k]
        · rw [decide_eq_true he] at HQ
          have R : Hid (p1.take (k + 1) = p2.take (k + 1)) := by
            show _ = _
            rw [List.take_succ_eq_append_getElem hlt, List.take_succ_eq_append_getElem hlt2, he, HT.out]
          clear he
          go_wp2_with fail
          refine HQ.out.mono ?_; rintro e w3 ⟨rfl, n3, HW3⟩
          have R3 : Hid (w3 = w.drewN (n + n3)) := by show _ = _; rw [HW3, HW.out]; exact World.drewN_drewN _ _ _
          clear HW3
          go_wp2
          go_roundw
          case rel => exact ⟨k + 1, by omega, by go_num, R, _, R3⟩
          case measure => simp [intOf]; omega
        · rw [decide_eq_false he] at HQ
          have R := Lib.hid (tf_no (p := p1 = p2) (take_no hlt hlt2 he))
          clear he
          go_wp2_with fail
          refine HQ.out.mono ?_; rintro e w3 ⟨rfl, n3, HW3⟩
          have R3 : Hid (w3 = w.drewN (n + n3)) := by show _ = _; rw [HW3, HW.out]; exact World.drewN_drewN _ _ _
          clear HW3
          go_wp2
          go_ret
          exact ⟨ret_bool (by rw [R.out]), _, R3.out⟩
      · have R := Lib.hid (tf_yes (p := p1 = p2) (by have := HT.out; rw [List.take_of_length_le (by omega), List.take_of_length_le (by have := HL.out; omega)] at this; exact this))
        go_wp2
        go_ret
        exact ⟨ret_bool (by rw [R.out]), _, HW.out⟩
  · have hne : ((p1.length : Int) != (p2.length : Int)) = true := by simp; omega
    have R := Lib.hid (tf_no (p := p1 = p2) fun e => hl (by rw [e]))
    clear hl
    go_enter Try.func32, Try.ntmps32
    go_wp2
    go_ret
    exact ⟨ret_bool (by rw [R.out]), 0, rfl⟩
set_option maxHeartbeats 1600000 in
theorem implSameNetwork (n1 : Int) (v1 : Value) (r1 : List (List Int)) (n2 : Int) (v2 : Value) (r2 : List (List Int)) (w : World) (h1 : (Lit.int .i64 n1).wf = true) (I1 : IntSS w v1 r1) (hl1 : r1.length + sumLen r1 ≤ 1048576) (h2 : (Lit.int .i64 n2).wf = true) (I2 : IntSS w v2 r2) (hl2 : r2.length + sumLen r2 ≤ 1048576) :
    Calls Try.prog 18 #[.agg #[.int .i64 n1, v1], .agg #[.int .i64 n2, v2]] w (GivesB w (tf (SnP n1 r1 n2 r2))) := by
  have hk1 : Hid (∀ W, Below w.heap.size w W → IntSS W v1 r1) := fun W hb => I1.keep (Below.keeps hb)
  have hk2 : Hid (∀ W, Below w.heap.size w W → IntSS W v2 r2) := fun W hb => I2.keep (Below.keeps hb)
  obtain ⟨ao1, cap1, hv1, _⟩ := I1
  obtain ⟨ao2, cap2, hv2, _⟩ := I2
  subst hv1
  subst hv2
  obtain ⟨W0, HW0⟩ : ∃ W0, Hid (W0 = ((w.alloc (.cells #[.int .i64 n1, .slice ao1 r1.length cap1] 26)).alloc (.cells #[.int .i64 n2, .slice ao2 r2.length cap2] 26))) := ⟨_, rfl⟩
  have BB : Below w.heap.size w W0 := by rw [HW0.out]; exact ((Below.refl _ _).alloc (by simp) _).alloc (by simp) _
  have ca1 : W0.cell? ⟨w.heap.size, 0, none⟩ = some (.int .i64 n1) := by rw [HW0.out]; simp [go_sem]
  have cb1 : W0.cell? ⟨w.heap.size, 1, none⟩ = some (.slice ao1 r1.length cap1) := by rw [HW0.out]; simp [go_sem]
  have ca2 : W0.cell? ⟨w.heap.size + 1, 0, none⟩ = some (.int .i64 n2) := by rw [HW0.out]; simp [go_sem]
  have cb2 : W0.cell? ⟨w.heap.size + 1, 1, none⟩ = some (.slice ao2 r2.length cap2) := by rw [HW0.out]; simp [go_sem]
  clear h1 h2 hl1 hl2
  rcases Classical.em (NetP n1 r1) with hN1 | hN1
  · have ht1 := tf_yes hN1
    have HN1 := Lib.hid hN1
    clear hN1
    go_enter Try.func18, Try.ntmps18
    go_wp2_with fail
    rw [← HW0.out]
    refine (implNetworkOk n1 _ r1 _ (hk1.out _ BB)).mono ?_; rintro e w1 ⟨rfl, b1⟩
    have ca1 := Below.keeps b1 _ _ ca1
    have cb1 := Below.keeps b1 _ _ cb1
    have ca2 := Below.keeps b1 _ _ ca2
    have cb2 := Below.keeps b1 _ _ cb2
    have B1 := BB.trans (b1.mono BB.size)
    clear b1 HW0
    go_wp2_with fail
    refine (implNetworkOk n2 _ r2 _ (hk2.out _ B1)).mono ?_; rintro e w2 ⟨rfl, b2⟩
    have ca1 := Below.keeps b2 _ _ ca1
    have cb1 := Below.keeps b2 _ _ cb1
    have ca2 := Below.keeps b2 _ _ ca2
    have cb2 := Below.keeps b2 _ _ cb2
    have B2 := B1.trans (b2.mono B1.size)
    clear b2
    rcases Classical.em (NetP n2 r2) with hN2 | hN2
    · have ht2 := tf_yes hN2
      by_cases hnn : n1 = n2
      · have hd : (n1 == n2) = true := by simp [hnn]
        have HE : Hid (tf (SnP n1 r1 n2 r2) = tf (pairsOf r1 = pairsOf r2)) := tf_congr ⟨fun h => h.2.2.2, fun h => ⟨HN1.out, hN2, hnn, h⟩⟩
        have q1 : r1 = rowsOf (pairsOf r1) := by obtain ⟨_, _, q, _⟩ := HN1.out.pairs; exact q
        have q2 : r2 = rowsOf (pairsOf r2) := by obtain ⟨_, _, q, _⟩ := hN2.pairs; exact q
        have HQ1 := Lib.hid q1
        have HQ2 := Lib.hid q2
        clear q1 q2 hN2 hnn
        go_wp2_with fail
        refine (eqRowsF _ _ (pairsOf r1) (pairsOf r2) w2 (by rw [← HQ1.out]; exact hk1.out _ B2) (by rw [← HQ2.out]; exact hk2.out _ B2)).mono ?_; rintro e w3 ⟨rfl, n3, HW3⟩
        have B3 : Below w.heap.size w w3 := by rw [HW3]; exact below_drewN B2 _
        clear HW3
        go_wp2
        go_ret
        exact ⟨ret_bool (by rw [HE.out]), B3⟩
      · have hd : (n1 == n2) = false := by simp [hnn]
        have HE := Lib.hid (tf_no (p := SnP n1 r1 n2 r2) (fun h => hnn h.2.2.1))
        clear hN2 hnn
        go_wp2
        go_ret
        exact ⟨ret_bool (by rw [HE.out]), B2⟩
    · have ht2 := tf_no hN2
      have HE := Lib.hid (tf_no (p := SnP n1 r1 n2 r2) (fun h => hN2 h.2.1))
      clear hN2
      go_wp2
      go_ret
      exact ⟨ret_bool (by rw [HE.out]), B2⟩
  · have ht1 := tf_no hN1
    have HE := Lib.hid (tf_no (p := SnP n1 r1 n2 r2) (fun h => hN1 h.1))
    clear hN1
    go_enter Try.func18, Try.ntmps18
    go_wp2_with fail
    rw [← HW0.out]
    refine (implNetworkOk n1 _ r1 _ (hk1.out _ BB)).mono ?_; rintro e w1 ⟨rfl, b1⟩
    have B1 := BB.trans (b1.mono BB.size)
    go_wp2
    go_ret
    exact ⟨ret_bool (by rw [HE.out]), B1⟩
end Go.Proofs.Ytncjhoohehfndaa
