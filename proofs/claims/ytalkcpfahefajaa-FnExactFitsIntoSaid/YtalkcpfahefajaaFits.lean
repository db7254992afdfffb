/- Contracts: FitsInto, the program's and the reference's. -/
import Derived.Test.YtalkcpfahefajaaFitP
import Derived.Test.YtalkcpfahefajaaMasks
import Derived.RegionTactic
namespace Go.Proofs.Ytalkcpfahefajaa
open Go.RowKit
set_option linter.unusedVariables false

set_option maxHeartbeats 1600000 in
set_option maxRecDepth 100000 in
theorem implFits (N : Nat) (va vb : Value) (a b : List Int) (w : World) (hA : Ints w va a) (hB : Ints w vb b) (ha : MasksP N a) (hb : MasksP N b) (hN : N ≤ 5) (hla : a.length ≤ 1048576) (hlb : b.length ≤ 1048576) :
    Calls Try.prog 30 #[.int .i64 N, va, vb] w (GivesB w (tf (FitP N a b))) := by
  have HA : Hid (∀ W, Below w.heap.size w W → Ints W va a) := fun W hW => hA.keep (Below.keeps hW)
  have HB : Hid (∀ W, Below w.heap.size w W → Ints W vb b) := fun W hW => hB.keep (Below.keeps hW)
  have h1N : 1 ≤ N := by have := ha.1.1; omega
  have HM := Lib.hid ha.inM
  clear hA hB ha hb
  obtain ⟨T, HT⟩ : ∃ T, Hid (tf (FitP N a b) = T) := ⟨_, rfl⟩
  rw [HT.out]
  go_enter Try.func30, Try.ntmps30
  go_wp2_with fail
  refine (orders N w hN).mono ?_; rintro e w1 ⟨u, rfl, O, b1⟩
  obtain ⟨L, HL⟩ : ∃ L, Hid (ords N N = L) := ⟨_, rfl⟩
  rw [HL.out] at O
  have HLn : Hid (L.length ≤ 120) := by show _ ≤ _; rw [← HL.out]; exact (ords_ok hN (Nat.le_refl _)).1
  obtain ⟨ao, cap, rfl, hcap, hmax, hnil, hcell⟩ := O.intss
  have HC := Lib.hid hcell
  have hl1 := HLn.out
  unfold maxLen at hmax
  clear hcell O
  go_wp2
  go_loopw [12] (fun i wr => ∃ k : Nat, k ≤ L.length ∧ i = .int .i64 k ∧ Hid (∀ j (h : j < L.length), j < k → ¬ Within (imgL (2 ^ N) (mapF (renM L[j]) a)) b) ∧ Below w1.heap.size w1 wr) (fun i _ => L.length - (intOf i).toNat)
  case atStart => exact ⟨0, Nat.zero_le _, rfl, Lib.hid (fun j _ h => absurd h (Nat.not_lt_zero _)), Below.refl _ _⟩
  case round =>
    obtain ⟨k, hk, rfl, HW, hb⟩ := hrel
    have hs1 := b1.size
    have bw := b1.trans (hb.mono hs1)
    by_cases hlt : k < L.length
    · obtain ⟨bb, oo, u, hao, hu, hI⟩ := HC.out k hlt
      subst hao
      have c1 := Below.keeps hb _ _ hu
      have HI := hI.keep (Below.keeps hb)
      have hPm : PermP N L[k] := ords_perm hN (by rw [HL.out]; exact List.getElem_mem _)
      clear hI hu
      go_wp2_with fail
      refine (renamedMasks N va u a L[k] _ (HA.out _ bw) hla HM.out ⟨h1N, by omega⟩ HI hPm).mono ?_; rintro e w2 ⟨v2, rfl, R2, b2⟩
      have bw2 := bw.trans (b2.mono bw.size)
      go_wp2_with fail
      refine (implIsWithin v2 vb _ b _ R2.ints (HB.out _ bw2) hlb).mono ?_; rintro e w3 ⟨rfl, b3⟩
      have bw3 := bw2.trans (b3.mono bw2.size)
      clear R2
      by_cases hw : Within (imgL (2 ^ N) (mapF (renM L[k]) a)) b
      · rw [tf_yes hw]
        go_wp2
        go_ret
        obtain rfl : T = true := by rw [← HT.out, tf_yes (show FitP N a b from ⟨L[k], by rw [HL.out]; exact List.getElem_mem _, hw⟩)]
        exact ⟨rfl, bw3⟩
      · rw [tf_no hw]
        have HW2 : Hid (∀ j (h : j < L.length), j < k + 1 → ¬ Within (imgL (2 ^ N) (mapF (renM L[j]) a)) b) := by
          intro j h hj
          rcases Nat.lt_or_ge j k with h' | h'
          · exact HW.out j h h'
          · obtain rfl : j = k := by omega
            exact hw
        have hbn : Below w1.heap.size w1 w3 := (hb.trans (b2.mono hb.size)).trans (b3.mono (Nat.le_trans hb.size b2.size))
        clear hw HI hPm c1
        go_wp2
        go_roundw
        case rel => exact ⟨k + 1, by omega, by go_num, HW2, hbn⟩
        case measure => simp [intOf]; omega
    · obtain rfl : k = L.length := by omega
      go_wp2
      go_ret
      obtain rfl : T = false := by
        rw [← HT.out, tf_no]
        rintro ⟨p, hp, hw⟩
        rw [HL.out] at hp
        obtain ⟨j, hj, rfl⟩ := List.getElem_of_mem hp
        exact HW.out j hj hj hw
      exact ⟨rfl, bw⟩

set_option maxHeartbeats 400000 in
theorem l04First (N : Nat) (w : World) (hN : N ≤ 8) : Calls Try.prog 41 #[.int .i64 N] w (GivesI w (upto N)) := by
  go_enter Try.func41, Try.ntmps41
  go_wp2
  go_loopw [3, 4] (fun v i wr => ∃ k : Nat, k ≤ N ∧ i = .int .i64 k ∧ OwnI tInt wr w.heap.size wr.heap.size v (upto k) ∧ Below w.heap.size w wr) (fun _ i _ => N - (intOf i).toNat)
  case atStart => exact ⟨0, Nat.zero_le _, rfl, OwnI.lit0 3 w w.heap.size (Nat.le_refl _), (Below.refl _ _).alloc (Nat.le_refl _) _⟩
  case round =>
    obtain ⟨k, hk, rfl, hown, hb⟩ := hrel
    have hs := hb.size
    by_cases hlt : k < N
    · go_wp2_with (at_builtin; refine wpList_append1 _ rfl _ _ 34 rfl 3 (.int .i64 0) 8 Try.underlying34 infoInt (by decide) rfl w.heap.size wr.heap.size _ _ rfl (hown.1.alloc _) ⟨wr.heap.size, 0, none⟩ 1 (.int .i64 k) rfl (cell_alloc0 _ _ _) rfl ?_ ?_ ?_)
      · simp [upto_length]; omega
      · simp; omega
      · intro v' w1 hown' hg
        have R1 := OwnI.snoc hown' hown.2 (show In64 (k : Int) from WalkArith.wf_i64 (by omega))
        rw [← upto_succ] at R1
        have R2 := below_app (hb.alloc hs _) (hown.1.alloc _) hg (Nat.le_refl _) (by simp; omega)
        clear hown hown' hg hb
        go_wp2
        go_roundw
        case rel => exact ⟨k + 1, by omega, by go_num, R1, R2⟩
        case measure => simp [intOf]; omega
    · obtain rfl : k = N := by omega
      go_wp2
      go_ret
      exact ⟨_, rfl, hown, hb⟩

theorem next_none {N : Nat} {v : Value} {a : List Int} {w : World} (h : Ints w v a) (h1 : 1 ≤ N) (hN : N ≤ 5) (ha : a ∈ ords N N) (hn : nextL a = none) :
    Calls Try.prog 44 #[v] w fun e w' => e = .returned (.tuple #[.slice none 0 0, .bool false]) ∧ Below w.heap.size w w' := by
  have hl := (ords_perm hN ha).1
  refine l04Next_no v a w h (by omega) (by omega) ?_
  unfold nextL at hn
  by_cases hp : pivN a (a.length - 1) = 0
  · exact hp
  · rw [if_neg hp] at hn; cases hn
theorem next_some {N : Nat} {v : Value} {a q : List Int} {w : World} (h : Ints w v a) (h1 : 1 ≤ N) (hN : N ≤ 5) (ha : a ∈ ords N N) (hn : nextL a = some q) :
    Calls Try.prog 44 #[v] w fun e w' => ∃ u, e = .returned (.tuple #[u, .bool true]) ∧ OwnI tInt w' w.heap.size w'.heap.size u q ∧ Below w.heap.size w w' := by
  have hl := (ords_perm hN ha).1
  unfold nextL at hn
  by_cases hp : pivN a (a.length - 1) = 0
  · rw [if_pos hp] at hn; cases hn
  · rw [if_neg hp] at hn
    obtain rfl := Option.some.inj hn
    exact l04Next_yes v a w _ _ _ h (by omega) (by omega) rfl (by omega) rfl rfl (((next_ok h1 hN).2.2.2 a ha).resolve_left hp)
set_option maxHeartbeats 1600000 in
set_option maxRecDepth 100000 in
theorem l04Fits (N : Nat) (va vb : Value) (a b : List Int) (w : World) (hA : Ints w va a) (hB : Ints w vb b) (ha : MasksP N a) (hb : MasksP N b) (hN : N ≤ 5) (hla : a.length ≤ 1048576) (hlb : b.length ≤ 1048576) :
    Calls Try.prog 28 #[.int .i64 N, va, vb] w (GivesB w (tf (FitP N a b))) := by
  have HA : Hid (∀ W, Below w.heap.size w W → Ints W va a) := fun W hW => hA.keep (Below.keeps hW)
  have HB : Hid (∀ W, Below w.heap.size w W → Ints W vb b) := fun W hW => hB.keep (Below.keeps hW)
  have h1N : 1 ≤ N := by have := ha.1.1; omega
  have HMa := Lib.hid ha
  have HMb := Lib.hid hb
  obtain ⟨T, HT⟩ : ∃ T, Hid (tf (FitP N a b) = T) := ⟨_, rfl⟩
  have HFL : Hid (T = true → a.length ≤ b.length ∧ ∀ c, c ≤ N → (clusTo N a a.length).getD c 0 ≤ (clusTo N b b.length).getD c 0) := by
    intro hT
    rcases Classical.em (FitP N a b) with h | h
    · exact fit_len hN ha hb h
    · have := HT.out; rw [tf_no h] at this; rw [← this] at hT; cases hT
  rw [HT.out]
  obtain ⟨aa, ca, rfl, ka1, ka2, _, _⟩ := hA
  obtain ⟨ab, cb, rfl, kb1, kb2, _, _⟩ := hB
  unfold maxLen at ka2 kb2
  clear ha hb
  go_enter Try.func28, Try.ntmps28
  by_cases hlen : a.length > b.length
  · obtain rfl : T = false := by
      cases T with
      | false => rfl
      | true => have := (HFL.out rfl).1; omega
    go_wp2
    go_ret
    exact ⟨rfl, Below.refl _ _⟩
  go_wp2_with fail
  refine (l04Clusters N _ a w (HA.out _ (Below.refl _ _)) hla HMa.out).mono ?_; rintro e w1 ⟨v1, rfl, R1, b1⟩
  go_wp2_with fail
  refine (l04Clusters N _ b w1 (HB.out _ b1) hlb HMb.out).mono ?_; rintro e w2 ⟨v2, rfl, R2, b2⟩
  have R1 := R1.below b2 (Nat.le_refl _)
  obtain ⟨C1, HC1⟩ : ∃ C, Hid (clusTo N a a.length = C) := ⟨_, rfl⟩
  obtain ⟨C2, HC2⟩ : ∃ C, Hid (clusTo N b b.length = C) := ⟨_, rfl⟩
  have hl1 : C1.length = N + 1 := by rw [← HC1.out]; exact clusTo_length _ _ _
  have hl2 : C2.length = N + 1 := by rw [← HC2.out]; exact clusTo_length _ _ _
  rw [HC1.out, HC2.out] at HFL
  rw [HC1.out] at R1
  rw [HC2.out] at R2
  obtain ⟨g1, q1, rfl, p1, p2, p3, p4, p5, F1⟩ := R1.fills (by omega)
  obtain ⟨g2, q2, rfl, r1, r2, r3, r4, r5, F2⟩ := R2.fills (by omega)
  have H1 : Hid (∀ W, Below w2.heap.size w2 W → ∀ k, k < N + 1 → W.cell? ⟨g1, k, none⟩ = some (.int .i64 (C1.getD k 0))) := fun W hW k hk => Below.keeps hW _ _ (F1.getD k (by omega))
  have H2 : Hid (∀ W, Below w2.heap.size w2 W → ∀ k, k < N + 1 → W.cell? ⟨g2, k, none⟩ = some (.int .i64 (C2.getD k 0))) := fun W hW k hk => Below.keeps hW _ _ (F2.getD k (by omega))
  rw [hl1] at p1 ⊢
  rw [hl2] at r1 ⊢
  unfold maxLen at p2 r2
  have b3 := b1.trans (b2.mono b1.size)
  clear R1 R2 F1 F2
  go_wp2
  go_loopw [26] (fun i wr => ∃ k : Nat, k ≤ N + 1 ∧ i = .int .i64 k ∧ Below w2.heap.size w2 wr) (fun i _ => N + 1 - (intOf i).toNat)
  case atStart => exact ⟨0, Nat.zero_le _, rfl, Below.refl _ _⟩
  case round =>
    obtain ⟨k, hk, rfl, hb⟩ := hrel
    by_cases hlt : k < N + 1
    · have c1 := H1.out _ hb k hlt
      have c2 := H2.out _ hb k hlt
      have hbw := b3.trans (hb.mono b3.size)
      generalize hx1 : C1.getD k 0 = x1 at *
      generalize hx2 : C2.getD k 0 = x2 at *
      have HX1 := Lib.hid hx1
      have HX2 := Lib.hid hx2
      clear hx1 hx2
      by_cases hg : x1 > x2
      · obtain rfl : T = false := by
          cases T with
          | false => rfl
          | true => have := (HFL.out rfl).2 k (by omega); rw [HX1.out, HX2.out] at this; omega
        have hd1 : decide (x1 > x2) = true := decide_eq_true hg
        go_wp2
        go_quiet (fail)
        go_wp2
        go_ret
        exact ⟨rfl, below_drewN hbw _⟩
      · have hd1 : decide (x1 > x2) = false := decide_eq_false hg
        go_wp2
        go_quiet (fail)
        go_wp2
        go_roundw
        case rel => exact ⟨k + 1, by omega, by go_num, below_drewN hb _⟩
        case measure => simp [intOf]; omega
    · obtain rfl : k = N + 1 := by omega
      have hbw := b3.trans (hb.mono b3.size)
      clear H1 H2 b1 b2 b3 hb HC1 HC2 HFL p1 p2 p3 p4 p5 r1 r2 r3 r4 r5
      go_wp2_with fail
      refine (l04First N wr (by omega)).mono ?_; rintro e w4 ⟨v4, rfl, R4, b4⟩
      have b5 := hbw.trans (b4.mono hbw.size)
      obtain ⟨L, HL⟩ : ∃ L, Hid (ords N N = L) := ⟨_, rfl⟩
      have HLn : Hid (L.length ≤ 120) := by show _ ≤ _; rw [← HL.out]; exact (ords_ok hN (Nat.le_refl _)).1
      have HNd : Hid L.Nodup := by show L.Nodup; rw [← HL.out]; exact ords_nodup hN
      have HCh : Hid (chainB L = true) := by show _ = _; rw [← HL.out]; exact (next_ok h1N hN).1
      have hL0 : 0 < L.length := by rw [← HL.out]; exact (next_ok h1N hN).2.1
      have HF0 : Hid (L[0] = upto N) := by
        have := HL.out
        subst this
        exact (next_ok h1N hN).2.2.1 hL0
      have hI4 : Ints w4 v4 L[0] := by rw [HF0.out]; exact R4.ints
      clear R4 HF0
      go_wp2
      go_loopw [10] (fun p wr => ∃ k : Nat, ∃ hk : k < L.length, Ints wr p L[k] ∧ Hid (∀ j (h : j < L.length), j < k → ¬ Within (imgL (2 ^ N) (mapF (renM L[j]) a)) b) ∧ Below w.heap.size w wr) (fun p wr => rk L wr p)
      case atStart => exact ⟨0, hL0, hI4, Lib.hid (fun j _ h => absurd h (Nat.not_lt_zero _)), b5⟩
      case round =>
        clear hI4 b4 b5 hbw
        obtain ⟨k, hk, hI, HW, bw⟩ := hrel
        have hmem : L[k] ∈ ords N N := by rw [HL.out]; exact List.getElem_mem _
        have hPm : PermP N L[k] := ords_perm hN hmem
        have HRK : Hid (rk L wr u10 = L.length - k) := rk_at HNd.out hk hI
        have HI := Lib.hid hI
        go_wp2_with fail
        refine (l04Rename N _ u10 a L[k] _ (HA.out _ bw) hla HMa.out.inM ⟨h1N, by omega⟩ hI hPm).mono ?_; rintro e w2 ⟨v2, rfl, R2, b2⟩
        have bw2 := bw.trans (b2.mono bw.size)
        go_wp2_with fail
        refine (specIsWithin v2 _ _ b _ R2.ints (HB.out _ bw2)).mono ?_; rintro e w3 ⟨rfl, b3⟩
        have bw3 := bw2.trans (b3.mono bw2.size)
        have hI3 : Ints w3 u10 L[k] := hI.keep (Below.keeps (b2.trans (b3.mono b2.size)))
        clear R2 hI
        by_cases hw : Within (imgL (2 ^ N) (mapF (renM L[k]) a)) b
        · rw [tf_yes hw]
          go_wp2
          go_ret
          obtain rfl : T = true := by rw [← HT.out, tf_yes (show FitP N a b from ⟨L[k], hmem, hw⟩)]
          exact ⟨rfl, bw3⟩
        · rw [tf_no hw]
          have HW2 : Hid (∀ j (h : j < L.length), j < k + 1 → ¬ Within (imgL (2 ^ N) (mapF (renM L[j]) a)) b) := by
            intro j h hj
            rcases Nat.lt_or_ge j k with h' | h'
            · exact HW.out j h h'
            · obtain rfl : j = k := by omega
              exact hw
          have hch := chain_at L HCh.out k hk
          clear hw
          by_cases hlt : k + 1 < L.length
          · rw [List.getElem?_eq_getElem hlt] at hch
            go_wp2_with fail
            refine (next_some hI3 h1N hN hmem hch).mono ?_; rintro e w5 ⟨v5, rfl, R5, b5⟩
            have bw5 := bw3.trans (b5.mono bw3.size)
            have h5 := R5.ints
            have HRK2 := rk_at HNd.out hlt h5
            clear R5 hch
            go_wp2
            go_roundw
            case rel => exact ⟨k + 1, hlt, h5, HW2, bw5⟩
            case measure =>
              show rk L w5 v5 < rk L wr u10
              have := HRK.out
              omega
          · rw [List.getElem?_eq_none (by omega)] at hch
            go_wp2_with fail
            refine (next_none hI3 h1N hN hmem hch).mono ?_; rintro e w5 ⟨rfl, b5⟩
            have bw5 := bw3.trans (b5.mono bw3.size)
            go_wp2
            go_ret
            obtain rfl : T = false := by
              rw [← HT.out, tf_no]
              rintro ⟨p, hp, hw⟩
              rw [HL.out] at hp
              obtain ⟨j, hj, rfl⟩ := List.getElem_of_mem hp
              exact HW2.out j hj (by omega) hw
            exact ⟨rfl, bw5⟩
end Go.Proofs.Ytalkcpfahefajaa
