/- Contracts: KnownOrder, the program's and the reference's. -/
import Derived.Test.YtalkcpfahefajaaResOf
import Derived.Test.YtalkcpfahefajaaGridApp
import Derived.Test.YtalkcpfahefajaaNetIn
import Derived.Test.YtalkcpfahefajaaNb
import Derived.Test.YtalkcpfahefajaaUp
namespace Go.Proofs.Ytalkcpfahefajaa
open Go.RowKit
set_option linter.unusedVariables false

/-- Mask m has a one at wire i and a zero at wire k. -/
def BadM (i k : Nat) (m : Int) : Prop := m.toNat / 2 ^ i % 2 = 1 ∧ m.toNat / 2 ^ k % 2 = 0
def KoTo (xs : List Int) (i k t : Nat) : Prop := i ≠ k ∧ ∀ m ∈ xs.take t, ¬ BadM i k m
def KoP (xs : List Int) (i k : Nat) : Prop := i ≠ k ∧ ∀ m ∈ xs, ¬ BadM i k m
noncomputable def koIn (xs : List Int) (i : Nat) : Nat → List (List Int)
  | 0 => []
  | k + 1 => koIn xs i k ++ (bif tf (KoP xs i k) then [[(i : Int), (k : Int)]] else [])
noncomputable def koOut (xs : List Int) (N : Nat) : Nat → List (List Int)
  | 0 => []
  | i + 1 => koOut xs N i ++ koIn xs i N
theorem koIn_yes {xs : List Int} {i k : Nat} (h : KoP xs i k) : koIn xs i (k + 1) = koIn xs i k ++ [[(i : Int), (k : Int)]] := by
  show koIn xs i k ++ _ = _; rw [tf_yes h]; rfl
theorem koIn_no {xs : List Int} {i k : Nat} (h : ¬ KoP xs i k) : koIn xs i (k + 1) = koIn xs i k := by
  show koIn xs i k ++ _ = _; rw [tf_no h]; simp
theorem koIn_le (xs : List Int) (i k : Nat) : (koIn xs i k).length ≤ k := by
  induction k with
  | zero => exact Nat.le_refl _
  | succ k ih =>
    rcases Classical.em (KoP xs i k) with h | h
    · rw [koIn_yes h, List.length_append]; simp; omega
    · rw [koIn_no h]; omega
theorem koOut_le (xs : List Int) (N i : Nat) : (koOut xs N i).length ≤ i * N := by
  induction i with
  | zero => exact Nat.zero_le _
  | succ i ih =>
    show (koOut xs N i ++ koIn xs i N).length ≤ _
    rw [List.length_append, Nat.succ_mul]
    have := koIn_le xs i N
    omega
theorem koIn_two (xs : List Int) (i k : Nat) : ∀ r ∈ koIn xs i k, r.length ≤ 2 := by
  induction k with
  | zero => intro r hr; cases hr
  | succ k ih =>
    rcases Classical.em (KoP xs i k) with h | h
    · rw [koIn_yes h]
      intro r hr
      rcases List.mem_append.1 hr with h | h
      · exact ih r h
      · simp only [List.mem_singleton] at h; subst h; simp
    · rw [koIn_no h]; exact ih
theorem koOut_two (xs : List Int) (N i : Nat) : ∀ r ∈ koOut xs N i, r.length ≤ 2 := by
  induction i with
  | zero => intro r hr; cases hr
  | succ i ih =>
    intro r hr
    rcases List.mem_append.1 hr with h | h
    · exact ih r h
    · exact koIn_two _ _ _ r h
theorem koTo_zero {xs : List Int} {i k : Nat} : KoTo xs i k 0 ↔ i ≠ k := by simp [KoTo]
theorem koTo_all {xs : List Int} {i k : Nat} : KoTo xs i k xs.length ↔ KoP xs i k := by simp [KoTo, KoP]
theorem koTo_yes {xs : List Int} {i k t : Nat} (ht : t < xs.length) (h : KoTo xs i k t) (hb : ¬ BadM i k xs[t]) : KoTo xs i k (t + 1) := by
  refine ⟨h.1, fun m hm => ?_⟩
  rw [List.take_succ_eq_append_getElem ht] at hm
  rcases List.mem_append.1 hm with h1 | h1
  · exact h.2 m h1
  · rw [List.mem_singleton] at h1; rw [h1]; exact hb
theorem koTo_no {xs : List Int} {i k t : Nat} (h : ¬ KoTo xs i k t) : ¬ KoTo xs i k (t + 1) := fun h1 => h ⟨h1.1, fun m hm => h1.2 m (by
  rw [List.mem_take_iff_getElem] at hm ⊢
  obtain ⟨j, hj, he⟩ := hm
  exact ⟨j, by omega, he⟩)⟩
theorem koTo_bad {xs : List Int} {i k t : Nat} (ht : t < xs.length) (hb : BadM i k xs[t]) : ¬ KoTo xs i k (t + 1) := fun h1 => h1.2 xs[t] (by rw [List.take_succ_eq_append_getElem ht]; exact List.mem_append_right _ (List.mem_singleton.2 rfl)) hb
noncomputable def koN (n : Int) (rows : List (List Int)) : List (List Int) := nbR (NetP n rows) (koOut (resN n rows) n.toNat n.toNat)
theorem ko_le (n : Int) (rows : List (List Int)) : sumLen (koN n rows) ≤ 128 := nbR_le fun h => by
  have h1 := sumLen_le2 (koOut (resN n rows) n.toNat n.toNat) (koOut_two _ _ _)
  have h2 := koOut_le (resN n rows) n.toNat n.toNat
  have h3 : n.toNat ≤ 8 := by have := h.1; unfold InP at this; omega
  have h4 : n.toNat * n.toNat ≤ 8 * 8 := Nat.mul_le_mul h3 h3
  omega
theorem resN_in (n : Int) (rows : List (List Int)) : InM 256 (resN n rows) := by
  rcases Classical.em (NetP n rows) with h | h
  · have h1 : n ≤ 8 := by have := h.1; unfold InP at this; omega
    have h2 := pow256 h1
    intro x hx
    have h3 := imgL_bd _ _ x (by rw [resN, onlyI_yes h] at hx; exact hx)
    omega
  · intro x hx
    rw [resN, onlyI_no h] at hx
    cases hx
theorem resN_some {n : Int} {rows : List (List Int)} (h : NetP n rows) : resN n rows ≠ [] := by
  have hb : ∀ y ∈ mapF (bitsN (pairsOf rows)) (upto (2 ^ n.toNat)), 0 ≤ y ∧ y < (2 ^ n.toNat : Nat) := mapF_bd fun x hx => by
    obtain ⟨N, rfl, hr, hp⟩ := h.pairs
    have := upto_in _ x hx
    rw [Int.toNat_natCast] at this ⊢
    exact bitsN_pow hp _ (by omega)
  have hp := Nat.two_pow_pos n.toNat
  have h0 : (0 : Int) ∈ upto (2 ^ n.toNat) := List.mem_map.2 ⟨0, List.mem_range.2 hp, rfl⟩
  have h1 : ((bitsN (pairsOf rows) (0 : Int).toNat : Nat) : Int) ∈ mapF (bitsN (pairsOf rows)) (upto (2 ^ n.toNat)) := List.mem_map.2 ⟨0, h0, rfl⟩
  have h2 := (mem_imgL hb _).2 h1
  intro he
  rw [resN, onlyI_yes h] at he
  rw [he] at h2
  cases h2
theorem kn_news (w : World) (o1 : Obj) (v : Value) (t : TypeId) : ∀ (j : Nat) (u : Value), [v][j]? = some u → (((w.alloc o1).alloc (.cells #[v] t)).cell? ((⟨w.heap.size + 1, 0, none⟩ : Addr).add j) = some u) := by
  intro j u hj
  have := news_two w o1 v t j u hj
  simpa using this
theorem kn_below (wr : World) (o1 o2 : Obj) : Below wr.heap.size wr ((wr.alloc o1).alloc o2) := (((Below.refl _ wr).alloc (Nat.le_refl _) o1).alloc (by simp) o2)
theorem kn_pair (wr : World) (a b : Int) (ha : In64 a) (hb : In64 b) (o2 : Obj) : OwnI tInt ((wr.alloc (.cells #[.int .i64 a, .int .i64 b] tInt)).alloc o2) wr.heap.size ((wr.alloc (.cells #[.int .i64 a, .int .i64 b] tInt)).alloc o2).heap.size (.slice (some ⟨wr.heap.size, 0, none⟩) 2 2) [a, b] :=
  ((Fills.lit tInt wr wr.heap.size [a, b] #[.int .i64 a, .int .i64 b] rfl (Nat.le_refl _) (by simp [maxLen])).alloc o2).own (by simp; omega) (by intro x hx; simp at hx; rcases hx with rfl | rfl <;> assumption)
theorem OwnI.grownX {W w' : World} {l h lo hi : Nat} {u v : Value} {ys : List Int} {vs : List Value} (ho : OwnI tInt W l h u ys) (hOW : Own tInts W lo hi v vs) (hg : W.grownBy w' v.ownBlock) : OwnI tInt w' l h u ys :=
  ⟨⟨ownsRow_block ho.1.1 fun g hgu => hg.block g (ho.1.lt hgu).2.2 (fun e => own_ne ho.1 hOW (by decide) hgu e.symm), ho.1.2⟩, ho.2⟩

set_option maxHeartbeats 4000000 in
set_option maxRecDepth 100000 in
theorem specKnownOrder (n : Int) (v : Value) (rows : List (List Int)) (w : World) (hn : (Lit.int .i64 n).wf = true) (h : IntSS w v rows) (hl : rows.length + sumLen rows ≤ 1048576) :
    Calls Try.prog 6 #[.agg #[.int .i64 n, v]] w (GivesSS w (koN n rows)) := by
  have hk : Hid (∀ W, Below w.heap.size w W → IntSS W v rows) := fun W hb => h.keep (Below.keeps hb)
  have HRS : Hid (∀ W, Below w.heap.size w W → Calls Try.prog 20 #[.agg #[.int .i64 n, v]] W (GivesI W (resN n rows))) := fun W hb => specResultsOf n v rows W hn (hk.out W hb) hl
  obtain ⟨ao, cap, hv, _⟩ := h
  have ba : Below w.heap.size w (w.alloc (.cells #[.int .i64 n, .slice ao rows.length cap] 27)) := (Below.refl _ _).alloc (Nat.le_refl _) _
  clear hn hl
  subst hv
  rcases Classical.em (NetP n rows) with hN | hN
  · have ht := tf_yes hN
    have HE : Hid (koN n rows = koOut (resN n rows) n.toNat n.toNat) := nbR_yes hN
    rw [HE.out]
    have hlen := resN_le n rows
    have HX := Lib.hid (resN_in n rows)
    obtain ⟨N, rfl, hr, hp⟩ := hN.pairs
    rw [Int.toNat_natCast]
    have hN8 : N ≤ 8 := hp.2.1
    generalize resN N rows = xs at *
    have hNN : N * N ≤ 64 := Nat.mul_le_mul hN8 hN8
    clear hN hp hr HE
    obtain ⟨i0, hi, hz0, hz1, hz2⟩ := info_parts infoInts
    go_enter Try.func6, Try.ntmps6
    go_wp2_with fail
    refine (specNetworkOk _ _ rows _ (hk.out _ ba)).mono ?_; rintro e w1 ⟨rfl, b1⟩
    rw [ht]
    have cx : w1.cell? ⟨w.heap.size, 0, none⟩ = some (.int .i64 N) := Below.keeps b1 _ _ (by simp [go_sem])
    have cy : w1.cell? ⟨w.heap.size, 1, none⟩ = some (.slice ao rows.length cap) := Below.keeps b1 _ _ (by simp [go_sem])
    have bw := ba.trans (b1.mono ba.size)
    have hw1 : w.heap.size < w1.heap.size := World.block_lt_of_cell? w1 _ cx
    go_wp2_with fail
    refine (HRS.out _ (bw.alloc (by omega) _)).mono ?_; rintro e w2 ⟨u2, rfl, R2, b2⟩
    obtain ⟨aS, caps, hus, _, hmaxs, _, hcells⟩ := R2.ints
    subst hus
    have bA : Below w1.heap.size w1 w2 := ((Below.refl _ w1).alloc (Nat.le_refl _) (.cells #[] 34)).trans (b2.mono (by simp))
    have hO2 : OwnSS tInt tInts w2 w1.heap.size w2.heap.size (.slice (some ⟨w1.heap.size, 0, none⟩) 0 0) [] := ((OwnSS.lit0 tInt tInts w1 w1.heap.size (Nat.le_refl _)).below b2 (Nat.le_refl _)).wide (Nat.le_refl _) b2.size
    rw [World.size_alloc] at R2 b2
    have s2 := bA.size
    unfold maxLen at hmaxs
    clear hcells b2
    have R2 := R2.wide (lo' := w1.heap.size) (by omega) (Nat.le_refl _)
    go_wp2
    go_loopw [3, 5] (fun o i wr => ∃ k : Nat, k ≤ N ∧ i = .int .i64 k ∧ Hid (OwnSS tInt tInts wr w1.heap.size wr.heap.size o (koOut xs N k)) ∧ Hid (OwnI tInt wr w1.heap.size wr.heap.size (.slice aS xs.length caps) xs) ∧ Below w1.heap.size w1 wr) (fun _ i _ => N - (intOf i).toNat)
    case atStart => exact ⟨0, Nat.zero_le _, rfl, Lib.hid hO2, Lib.hid R2, bA⟩
    case round =>
      obtain ⟨i, hi9, rfl, HO, HS, hb⟩ := hrel
      clear hO2 R2 bA s2
      have cx2 := Below.keeps hb _ _ cx
      by_cases hlt : i < N
      · have HI1 : Hid (koOut xs N (i + 1) = koOut xs N i ++ koIn xs i N) := rfl
        have HI0 : Hid (koOut xs N i = koOut xs N i ++ koIn xs i 0) := by show _ = _; simp [koIn]
        have hil := koOut_le xs N i
        have hi64 : i * N ≤ 56 := Nat.mul_le_mul (show i ≤ 7 by omega) hN8
        rw [HI0.out] at HO
        clear HI0
        go_wp2
        go_loopw [3, 6] (fun o j wt => ∃ k : Nat, k ≤ N ∧ j = .int .i64 k ∧ Hid (OwnSS tInt tInts wt w1.heap.size wt.heap.size o (koOut xs N i ++ koIn xs i k)) ∧ Hid (OwnI tInt wt w1.heap.size wt.heap.size (.slice aS xs.length caps) xs) ∧ Below w1.heap.size w1 wt) (fun _ j _ => N - (intOf j).toNat)
        case atStart => exact ⟨0, Nat.zero_le _, rfl, HO, HS, hb⟩
        case round =>
          clear HO HS hb cx2
          obtain ⟨k, hk9, rfl, HO, HS, hb⟩ := hrel
          have cx3 := Below.keeps hb _ _ cx
          by_cases hltk : k < N
          · have hs3 := hb.size
            obtain ⟨_, _, hus, _, _, _, hcell⟩ := HS.out.ints
            simp only [Value.slice.injEq] at hus
            obtain ⟨hq1, -, hq2⟩ := hus
            subst hq1; subst hq2
            have HC := Lib.hid hcell; clear hcell
            have hi8 : i < 8 := by omega
            have hk8 : k < 8 := by omega
            have hwi := wrap_pow i (by omega)
            have hwk := wrap_pow k (by omega)
            have hT0 : Hid (tf (KoTo xs i k 0) = !decide (i = k)) := (tf_congr koTo_zero).trans (by by_cases e : i = k <;> simp [tf, e])
            obtain ⟨tv, hne, hT1⟩ : ∃ tv : Bool, ((i : Int) != (k : Int)) = tv ∧ Hid (tv = tf (KoTo xs i k 0)) := ⟨_, rfl, by
              show _ = _
              rw [hT0.out]
              by_cases e : i = k
              · subst e; simp
              · have : ¬ ((i : Int) = (k : Int)) := by omega
                simp [e, this]⟩
            go_wp2
            go_loop [7, 33] (fun q t => ∃ j : Nat, j ≤ xs.length ∧ t = .int .i64 j ∧ ∃ tb : Bool, q = .bool tb ∧ Hid (tb = tf (KoTo xs i k j))) (fun _ t => xs.length - (intOf t).toNat)
            case atStart => exact ⟨0, Nat.zero_le _, rfl, _, rfl, hT1⟩
            case round =>
              clear hne hT1
              obtain ⟨j, hj9, rfl, tb, rfl, HTB⟩ := hrel
              by_cases hltj : j < xs.length
              · obtain ⟨bs, os, uu, hab, hu, hux, _⟩ := HC.out j hltj
                obtain ⟨mI, hmI, hmB⟩ : ∃ m : Nat, xs[j] = (m : Int) ∧ m < 256 := by
                  have := HX.out xs[j] (List.getElem_mem ..)
                  exact ⟨xs[j].toNat, by omega, by omega⟩
                subst hab
                rw [hux, hmI] at hu
                have HM := Lib.hid hmI
                clear hux hmI
                have z1 := bit_eq mI i hmB hi8
                have z2 := bit_eq mI k hmB hk8
                rcases Classical.em (KoTo xs i k j) with hK | hK
                · have hT : tb = true := HTB.out.trans (tf_yes hK)
                  subst hT
                  rcases Nat.mod_two_eq_zero_or_one (mI / 2 ^ i) with y1 | y1
                  · rw [y1] at z1
                    have R := Lib.hid (tf_yes (koTo_yes hltj hK (by unfold BadM; rw [HM.out, Int.toNat_natCast]; omega))).symm
                    clear hK HTB y1
                    go_wp2
                    go_round
                    case rel => exact ⟨j + 1, by omega, by go_num, _, rfl, R⟩
                    case measure => simp [intOf]; omega
                  · rcases Nat.mod_two_eq_zero_or_one (mI / 2 ^ k) with y2 | y2
                    · rw [y1] at z1
                      rw [y2] at z2
                      have R := Lib.hid (tf_no (koTo_bad (i := i) (k := k) hltj (by unfold BadM; rw [HM.out, Int.toNat_natCast]; exact ⟨y1, y2⟩))).symm
                      clear hK HTB y1 y2
                      go_wp2
                      go_round
                      case rel => exact ⟨j + 1, by omega, by go_num, _, rfl, R⟩
                      case measure => simp [intOf]; omega
                    · rw [y1] at z1
                      rw [y2] at z2
                      have R := Lib.hid (tf_yes (koTo_yes hltj hK (by unfold BadM; rw [HM.out, Int.toNat_natCast]; omega))).symm
                      clear hK HTB y1 y2
                      go_wp2
                      go_round
                      case rel => exact ⟨j + 1, by omega, by go_num, _, rfl, R⟩
                      case measure => simp [intOf]; omega
                · have hT : tb = false := HTB.out.trans (tf_no hK)
                  subst hT
                  have R := Lib.hid (tf_no (koTo_no hK)).symm
                  clear hK HTB z1 z2
                  go_wp2
                  go_round
                  case rel => exact ⟨j + 1, by omega, by go_num, _, rfl, R⟩
                  case measure => simp [intOf]; omega
              · obtain rfl : j = xs.length := by omega
                have hil2 := koIn_le xs i k
                rcases Classical.em (KoP xs i k) with hK | hK
                · have hT : tb = true := HTB.out.trans (tf_yes (koTo_all.2 hK))
                  subst hT
                  have HE2 := Lib.hid (koIn_yes hK)
                  obtain ⟨vs, hO, hR⟩ := HO.out
                  have hvl : vs.length ≤ 64 := by have := hR.1; rw [List.length_append] at this; omega
                  have HRR := Lib.hid hR
                  clear hK HTB hR HO
                  go_wp2_with (at_builtin; refine wpList_append1_at _ rfl _ _ 22 rfl tInts (.slice none 0 0) 24 Try.underlying22 infoInts (by decide) rfl w1.heap.size wr.heap.size _ vs rfl ((hO.alloc _).alloc _) ⟨wr.heap.size + 1, 0, none⟩ 1 (.slice (some ⟨wr.heap.size, 0, none⟩) 2 2) rfl (by simp) rfl ?_ ?_ ?_)
                  · omega
                  · omega
                  · intro v' w3 hown' hgr hat
                    have R1 := OwnSS.app hO HRR.out (kn_below _ _ _) (kn_pair wr i k (WalkArith.wf_i64 (by omega)) (WalkArith.wf_i64 (by omega)) _) (by omega) hown' hgr
                    have R2 := below_app (hb.trans ((kn_below _ _ _).mono hs3)) ((hO.alloc _).alloc _) hgr (Nat.le_refl _) (Nat.le_trans hs3 (kn_below wr _ _).size)
                    have R3 := (OwnI.grownX (HS.out.below (kn_below wr (.cells #[.int .i64 i, .int .i64 k] tInt) (.cells #[.slice (some ⟨wr.heap.size, 0, none⟩) 2 2] tInts)) (Nat.le_refl _)) ((hO.alloc _).alloc _) hgr).wide (Nat.le_refl _) (Nat.le_trans (kn_below wr _ _).size hgr.size)
                    rw [List.append_assoc, ← HE2.out] at R1
                    have HO2 := Lib.hid R1
                    have HS2 := Lib.hid R3
                    clear hO HRR hown' hgr hat R1 R3 HS HC
                    go_wp2
                    go_roundw
                    case rel => exact ⟨k + 1, by omega, by go_num, HO2, HS2, R2⟩
                    case measure => simp [intOf]; omega
                · have hT : tb = false := HTB.out.trans (tf_no (fun h => hK (koTo_all.1 h)))
                  subst hT
                  have HE2 := Lib.hid (koIn_no hK)
                  rw [← HE2.out] at HO
                  clear hK HTB
                  go_wp2
                  go_roundw
                  case rel => exact ⟨k + 1, by omega, by go_num, HO, HS, hb⟩
                  case measure => simp [intOf]; omega
          · obtain rfl : k = N := by omega
            rw [← HI1.out] at HO
            go_wp2
            go_roundw
            case rel => exact ⟨i + 1, by omega, by go_num, HO, HS, hb⟩
            case measure => simp [intOf]; omega
      · obtain rfl : i = N := by omega
        have R := HO.out
        have hs := hb.size
        clear HO HS
        go_wp2
        go_ret
        exact ⟨_, rfl, R.wide (by omega) (Nat.le_refl _), bw.trans (hb.mono (by omega))⟩
  · have ht := tf_no hN
    have HE : Hid (koN n rows = []) := nbR_no hN
    rw [HE.out]
    clear hN
    go_enter Try.func6, Try.ntmps6
    go_wp2_with fail
    refine (specNetworkOk _ _ rows _ (hk.out _ ba)).mono ?_; rintro e w1 ⟨rfl, b1⟩
    rw [ht]
    have bw := ba.trans (b1.mono ba.size)
    go_wp2
    go_ret
    exact ⟨_, rfl, OwnSS.nil _ _ _ _ _, bw⟩
end Go.Proofs.Ytalkcpfahefajaa
