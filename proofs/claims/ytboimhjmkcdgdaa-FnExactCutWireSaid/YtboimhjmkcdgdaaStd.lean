/- Contracts: IsStandard, IsPrimitive, the program's and the reference's. -/
import Derived.Test.YtboimhjmkcdgdaaNetOk
import Derived.Test.YtboimhjmkcdgdaaUp
import Derived.Test.YtboimhjmkcdgdaaStdD
namespace Go.Proofs.Ytboimhjmkcdgdaa
open Go.RowKit
set_option linter.unusedVariables false

theorem below_up {W W' : World} {n : Nat} (h : W' = W.drewN n) : Below W.heap.size W W' := by rw [h]; exact below_drewN (Below.refl _ _) n

theorem closStd (a b : Nat) (x po pc : Nat) (w : World) (g1 : 2 ≤ pc) (g2 : pc ≤ maxLen) (c1 : w.cell? ⟨x, po, none⟩ = some (.int .i64 a)) (c2 : w.cell? ⟨x, po + 1, none⟩ = some (.int .i64 b)) (ha : a < 8) (hb : b < 8) :
    Calls Try.prog 44 #[.slice (some ⟨x, po, none⟩) 2 pc] w fun e w' => e = .returned (.bool (tf (GtP (a, b)))) ∧ Below w.heap.size w w' := by
  have HT : Hid (tf (GtP (a, b)) = decide (b < a)) := by
    show _ = _
    unfold GtP
    refine tf_dec.trans ?_
    first | rfl | simp
  unfold maxLen at g2
  go_enter Try.func44, Try.ntmps44
  go_wp2
  go_quiet (fail)
  go_wp2
  go_ret
  exact ⟨ret_bool (by rw [HT.out]), below_drewN (Below.refl _ _) _⟩
set_option maxHeartbeats 800000 in
theorem idxStd (v : Value) (N : Nat) (ps : List (Nat × Nat)) (w : World) (h : IntSS w v (rowsOf ps)) (hp : PsOk N ps) :
    Calls Try.prog 47 #[v, .func (.func 44) #[] #[]] w fun e w' => ∃ z, e = .returned (.int .i64 z) ∧ IdxP GtP ps z ∧ Below w.heap.size w w' := by
  obtain ⟨ao, cap, rfl, hcap, hmax, hnil, hcell⟩ := pairs_open h
  have HC := Lib.hid hcell; clear hcell h
  have HP := Lib.hid hp; clear hp
  unfold maxLen at hmax
  have h60 : ps.length ≤ 60 := HP.out.2.2.1
  go_enter Try.func47, Try.ntmps47
  go_wp2
  go_loopw [8] (fun i wr => ∃ k : Nat, k ≤ ps.length ∧ i = .int .i64 k ∧ Hid (∀ j (hj : j < ps.length), j < k → ¬ GtP ps[j]) ∧ Below w.heap.size w wr) (fun i _ => ps.length - (intOf i).toNat)
  case atStart => exact ⟨0, Nat.zero_le _, rfl, Lib.hid (fun j _ hj => by omega), Below.refl _ _⟩
  case round =>
    obtain ⟨k, hk, rfl, HN, hb⟩ := hrel
    by_cases hlt : k < ps.length
    · obtain ⟨b, o, x, po, pc, rfl, hu, g1, g2, d0, d1⟩ := HC.out k hlt
      have c1 := Below.keeps hb _ _ hu
      have c2 := Below.keeps hb _ _ d0
      have c3 := Below.keeps hb _ _ d1
      obtain ⟨hn1, hn8, _, hall⟩ := HP.out
      obtain ⟨p1, p2, p3⟩ := hall k hlt
      have HCC := Lib.hid (closStd ps[k].1 ps[k].2 x po pc wr g1 g2 c2 c3 (by omega) (by omega))
      clear hu d0 d1 hall
      rcases Classical.em (GtP ps[k]) with hP | hP
      · have ht : tf (GtP (ps[k].1, ps[k].2)) = true := tf_yes hP
        have HS : Hid (IdxP GtP ps k) := ⟨fun _ => ⟨k, hlt, hP⟩, fun _ => by omega⟩
        rw [ht] at HCC
        clear hP ht
        go_wp2_with (go_at_call 44; refine HCC.out.mono ?_; rintro e w2 ⟨rfl, b2⟩)
        have R := hb.trans (b2.mono hb.size)
        go_ret
        exact ⟨_, rfl, HS.out, R⟩
      · have ht : tf (GtP (ps[k].1, ps[k].2)) = false := tf_no hP
        have HS : Hid (∀ j (hj : j < ps.length), j < k + 1 → ¬ GtP ps[j]) := by
          intro j hj hjk
          rcases Nat.lt_or_ge j k with hh | hh
          · exact HN.out j hj hh
          · obtain rfl : j = k := by omega
            exact hP
        rw [ht] at HCC
        clear hP ht
        go_wp2_with (go_at_call 44; refine HCC.out.mono ?_; rintro e w2 ⟨rfl, b2⟩)
        have R := hb.trans (b2.mono hb.size)
        go_roundw
        case rel => exact ⟨k + 1, by omega, by go_num, HS, R⟩
        case measure => simp [intOf]; omega
    · have HS : Hid (IdxP GtP ps (-1)) := ⟨fun hh => by omega, fun ⟨j, hj, hP⟩ => absurd hP (HN.out j hj (by omega))⟩
      go_wp2
      go_ret
      exact ⟨_, rfl, HS.out, hb⟩
theorem hasStd (v : Value) (N : Nat) (ps : List (Nat × Nat)) (w : World) (h : IntSS w v (rowsOf ps)) (hp : PsOk N ps) :
    Calls Try.prog 43 #[v, .func (.func 44) #[] #[]] w (GivesB w (tf (SomeP GtP ps))) := by
  have HI := Lib.hid (idxStd v N ps w h hp)
  obtain ⟨ao, cap, hv, _⟩ := h
  subst hv
  go_enter Try.func43, Try.ntmps43
  go_wp2_with (go_at_call 47; refine HI.out.mono ?_; rintro e w2 ⟨zz, rfl, HZ, b2⟩)
  have HE : Hid (tf (SomeP GtP ps) = decide (0 ≤ zz)) := (tf_congr HZ.symm).trans tf_dec
  go_ret
  exact ⟨ret_bool (by rw [HE.out]), b2⟩
theorem isStandard (N : Nat) (v : Value) (ps : List (Nat × Nat)) (w : World) (h : IntSS w v (rowsOf ps)) (hp : PsOk N ps) :
    Calls Try.prog 36 #[.agg #[.int .i64 N, v]] w (GivesB w (!tf (SomeP GtP ps))) := by
  have hk : Hid (∀ W, Below w.heap.size w W → IntSS W v (rowsOf ps)) := fun W hb => h.keep (Below.keeps hb)
  obtain ⟨ao, cap, hv, _⟩ := h
  have HP := Lib.hid hp
  subst hv
  clear hp
  go_enter Try.func36, Try.ntmps36
  go_wp2_with fail
  refine (hasStd _ N ps _ (hk.out _ ((Below.refl _ _).alloc (Nat.le_refl _) _)) HP.out).mono ?_; rintro e w1 ⟨rfl, b1⟩
  obtain ⟨cn, cv, b0, z⟩ := box_cells b1
  go_wp2
  go_ret
  exact ⟨rfl, b0⟩
theorem std_iff {N : Nat} {rows : List (List Int)} (h : NetP N rows) : tf (StdP N rows) = !tf (SomeP GtP (pairsOf rows)) := by
  rcases Classical.em (SomeP GtP (pairsOf rows)) with hs | hs
  · rw [tf_yes hs, tf_no (fun hh => hh.2 hs)]; rfl
  · rw [tf_no hs, tf_yes ⟨h, hs⟩]; rfl
set_option maxHeartbeats 800000 in
theorem implIsStandard (n : Int) (v : Value) (rows : List (List Int)) (w : World) (hn : (Lit.int .i64 n).wf = true) (h : IntSS w v rows) (hl : rows.length + sumLen rows ≤ 1048576) :
    Calls Try.prog 18 #[.agg #[.int .i64 n, v]] w (GivesB w (tf (StdP n rows))) := by
  have hk : Hid (∀ W, Below w.heap.size w W → IntSS W v rows) := fun W hb => h.keep (Below.keeps hb)
  obtain ⟨ao, cap, hv, _⟩ := h
  clear hn hl
  rcases Classical.em (NetP n rows) with hN | hN
  · have ht := tf_yes hN
    have hN' := hN
    obtain ⟨N, rfl, hr, hp⟩ := hN.pairs
    have HP := Lib.hid hp
    have HR := Lib.hid hr
    have HE := Lib.hid (std_iff hN')
    subst hv
    clear hN hN' hp hr
    go_enter Try.func18, Try.ntmps18
    go_wp2_with fail
    refine (implNetworkOk _ _ rows _ (hk.out _ ((Below.refl _ _).alloc (Nat.le_refl _) _))).mono ?_; rintro e w1 ⟨rfl, b1⟩
    obtain ⟨cn, cv, b0, z⟩ := box_cells b1
    go_wp2_with fail
    refine (isStandard N _ (pairsOf rows) _ (by rw [← HR.out]; exact hk.out _ b0) HP.out).mono ?_; rintro e w2 ⟨rfl, b2⟩
    have R := b0.trans (b2.mono b0.size)
    go_wp2
    go_ret
    exact ⟨ret_bool (by rw [HE.out]), R⟩
  · have ht := tf_no hN
    have HE : Hid (tf (StdP n rows) = false) := tf_no fun hh => hN hh.1
    subst hv
    clear hN
    go_enter Try.func18, Try.ntmps18
    go_wp2_with fail
    refine (implNetworkOk _ _ rows _ (hk.out _ ((Below.refl _ _).alloc (Nat.le_refl _) _))).mono ?_; rintro e w1 ⟨rfl, b1⟩
    obtain ⟨cn, cv, b0, z⟩ := box_cells b1
    go_wp2
    go_ret
    exact ⟨ret_bool HE.out.symm, b0⟩
set_option maxHeartbeats 800000 in
set_option maxRecDepth 100000 in
theorem specIsStandard (n : Int) (v : Value) (rows : List (List Int)) (w : World) (hn : (Lit.int .i64 n).wf = true) (h : IntSS w v rows) (hl : rows.length + sumLen rows ≤ 1048576) :
    Calls Try.prog 15 #[.agg #[.int .i64 n, v]] w (GivesB w (tf (StdP n rows))) := by
  have hk : Hid (∀ W, Below w.heap.size w W → IntSS W v rows) := fun W hb => h.keep (Below.keeps hb)
  have HNW := Lib.hid hn
  have HH := Lib.hid h
  obtain ⟨ao, cap, hv, _⟩ := h
  clear hn
  rcases Classical.em (NetP n rows) with hN | hN
  · have ht := tf_yes hN
    have hN' := hN
    obtain ⟨N, rfl, hr, hp⟩ := NetP.pairs hN
    have HP := Lib.hid hp
    have HR := Lib.hid hr
    have HG := Lib.hid hN'
    have hrl : rows.length = (pairsOf rows).length := by simp [pairsOf]
    have h60 : (pairsOf rows).length ≤ 60 := hp.2.2.1
    obtain ⟨ao', cap', hv', hcap, hmax, hnil, hcell⟩ := pairs_open (v := v) (ps := pairsOf rows) (w := w) (by rw [← HR.out]; exact HH.out)
    have HC := Lib.hid hcell
    subst hv
    simp only [Value.slice.injEq] at hv'
    obtain ⟨rfl, hll, rfl⟩ := hv'
    obtain ⟨ps, hps⟩ : ∃ ps, Hid (pairsOf rows = ps) := ⟨_, Lib.hid rfl⟩
    have HF0 : Hid (SomeP GtP ps → tf (StdP N rows) = false) := fun hs => tf_no fun hh => hh.2 (by rw [hps.out]; exact hs)
    have HF1 : Hid (¬ SomeP GtP ps → tf (StdP N rows) = true) := fun hs => tf_yes ⟨HG.out, by rw [hps.out]; exact hs⟩
    rw [hps.out] at HC HP hrl h60
    rw [hrl] at hk ⊢
    clear hN hN' hp hr hcell HH hll HG hps hrl
    unfold maxLen at hmax
    go_enter Try.func15, Try.ntmps15
    go_wp2_with fail
    refine (specNetworkOk _ _ rows _ (hk.out _ ((Below.refl _ _).alloc (Nat.le_refl _) _))).mono ?_; rintro e w1 ⟨rfl, b1⟩
    obtain ⟨cn, cv, b0, z⟩ := box_cells b1
    go_wp2
    go_loopw [11] (fun i wr => ∃ k : Nat, k ≤ ps.length ∧ i = .int .i64 k ∧ Hid (∀ j (hj : j < ps.length), j < k → ¬ GtP ps[j]) ∧ Below w.heap.size w wr) (fun i _ => ps.length - (intOf i).toNat)
    case atStart => exact ⟨0, Nat.zero_le _, rfl, Lib.hid (fun j _ hj => by omega), b0⟩
    case round =>
      obtain ⟨k, hk2, rfl, HN, hb⟩ := hrel
      by_cases hlt : k < ps.length
      · obtain ⟨b, o, x, po, pc, rfl, hu, g1, g2, d0, d1⟩ := HC.out k hlt
        have c1 := Below.keeps hb _ _ hu
        have c2 := Below.keeps hb _ _ d0
        have c3 := Below.keeps hb _ _ d1
        obtain ⟨hn1, hn8, _, hall⟩ := HP.out
        obtain ⟨p1, p2, p3⟩ := hall k hlt
        obtain ⟨a1, A1⟩ : ∃ z, Hid (ps[k].1 = z) := ⟨_, Lib.hid rfl⟩
        obtain ⟨a2, A2⟩ : ∃ z, Hid (ps[k].2 = z) := ⟨_, Lib.hid rfl⟩
        rw [A1.out] at c2 p1 p3
        rw [A2.out] at c3 p2 p3
        unfold maxLen at g2
        clear hu d0 d1 hall
        by_cases hP : a2 < a1
        · have HF : Hid (tf (StdP N rows) = false) := HF0.out ⟨k, hlt, by show GtP _; unfold GtP; rw [A1.out, A2.out]; exact hP⟩
          have hd1 : decide ((a2 : Int) < (a1 : Int)) = decide (a2 < a1) := by simp
          have hd2 : ((a2 : Int) != (a1 : Int) + 1) = !decide (a2 = a1 + 1) := by
            by_cases hab : a2 = a1 + 1
            · subst hab; simp
            · have h1 : ¬ ((a2 : Int) = (a1 : Int) + 1) := by omega
              simp [hab, h1]
          go_wp2
          go_quiet (fail)
          go_wp2
          go_ret
          exact ⟨ret_bool HF.out.symm, below_drewN hb _⟩
        · have HS : Hid (∀ j (hj : j < ps.length), j < k + 1 → ¬ GtP ps[j]) := by
            intro j hj hjk
            rcases Nat.lt_or_ge j k with hh | hh
            · exact HN.out j hj hh
            · obtain rfl : j = k := by omega
              unfold GtP; rw [A1.out, A2.out]; exact hP
          have hP2 : a1 ≤ a2 := by omega
          go_wp2
          go_quiet (fail)
          go_wp2
          go_roundw
          case rel => exact ⟨k + 1, by omega, by go_num, HS, below_drewN hb _⟩
          case measure => simp [intOf]; omega
      · have HF : Hid (tf (StdP N rows) = true) := HF1.out fun ⟨j, hj, hP⟩ => absurd hP (HN.out j hj (by omega))
        go_wp2
        go_ret
        exact ⟨ret_bool HF.out.symm, hb⟩
  · have ht := tf_no hN
    have HE : Hid (tf (StdP n rows) = false) := tf_no fun hh => hN hh.1
    subst hv
    clear hN HH
    go_enter Try.func15, Try.ntmps15
    go_wp2_with fail
    refine (specNetworkOk _ _ rows _ (hk.out _ ((Below.refl _ _).alloc (Nat.le_refl _) _))).mono ?_; rintro e w1 ⟨rfl, b1⟩
    obtain ⟨cn, cv, b0, z⟩ := box_cells b1
    go_wp2
    go_ret
    exact ⟨ret_bool HE.out.symm, b0⟩
theorem prim_iff {n : Int} {rows : List (List Int)} (h : StdP n rows) : tf (PrimP n rows) = !tf (SomeP NbP (pairsOf rows)) := by
  rcases Classical.em (SomeP NbP (pairsOf rows)) with hs | hs
  · rw [tf_yes hs, tf_no (fun hh => hh.2 hs)]; rfl
  · rw [tf_no hs, tf_yes ⟨h, hs⟩]; rfl
end Go.Proofs.Ytboimhjmkcdgdaa
