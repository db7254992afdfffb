/- Contracts: NetworkOk, the program's and the reference's, and the method isWire. -/
import Derived.Test.YthcnmaapcniehaaNetA
import Derived.Test.YthcnmaapcniehaaNums
import Derived.Test.YthcnmaapcniehaaUp
import Derived.Test.YthcnmaapcniehaaPairs
namespace Go.Proofs.Ythcnmaapcniehaa
open Go.RowKit
set_option linter.unusedVariables false

theorem isWire (n k : Int) (v : Value) (w : World) :
    Calls Try.prog 31 #[.agg #[.int .i64 n, v], .int .i64 k] w (GivesB w (tf (InP 0 k (n - 1)))) := by
  have HR := Lib.hid ((tf_congr (p := InP 0 k (n - 1)) Iff.rfl).trans (tf_dec (p := 0 ≤ k ∧ k ≤ n - 1)))
  rcases Decidable.em (0 ≤ k) with h1 | h1 <;> rcases Decidable.em (k < n) with h2 | h2
  all_goals
    go_enter Try.func31, Try.ntmps31
    go_wp2
    go_ret
    exact ⟨ret_bool (by rw [HR.out]; simp; omega), (Below.refl _ _).alloc (Nat.le_refl _) _⟩

theorem pair_ways (n : Int) (p : List Int) : (((p.length : Int) != 2) = true ∧ ¬ PairP n p) ∨ ∃ a b, p = [a, b] ∧
    (((a == b) = true ∧ ¬ PairP n p) ∨ ((a == b) = false ∧ tf (InP 0 a (n - 1)) = false ∧ ¬ PairP n p) ∨
     ((a == b) = false ∧ tf (InP 0 a (n - 1)) = true ∧ tf (InP 0 b (n - 1)) = false ∧ ¬ PairP n p) ∨
     ((a == b) = false ∧ tf (InP 0 a (n - 1)) = true ∧ tf (InP 0 b (n - 1)) = true ∧ PairP n p)) := by
  by_cases hl : p.length = 2
  · right
    match p, hl with
    | [a, b], _ =>
      refine ⟨a, b, rfl, ?_⟩
      by_cases hab : a = b
      · exact .inl ⟨by simp [hab], fun ⟨x, y, h, _, _, hne⟩ => by simp at h; omega⟩
      · have hb : (a == b) = false := by simp [hab]
        rcases Classical.em (InP 0 a (n - 1)) with h1 | h1
        · rcases Classical.em (InP 0 b (n - 1)) with h2 | h2
          · exact .inr (.inr (.inr ⟨hb, tf_yes h1, tf_yes h2, a, b, rfl, h1, h2, hab⟩))
          · exact .inr (.inr (.inl ⟨hb, tf_yes h1, tf_no h2, fun ⟨x, y, h, _, h4, _⟩ => by simp at h; obtain ⟨rfl, rfl⟩ := h; exact h2 h4⟩))
        · exact .inr (.inl ⟨hb, tf_no h1, fun ⟨x, y, h, h3, _, _⟩ => by simp at h; obtain ⟨rfl, rfl⟩ := h; exact h1 h3⟩)
  · exact .inl ⟨by rw [bne_iff_ne]; omega, fun ⟨x, y, h, _⟩ => by subst h; exact hl rfl⟩

theorem pair_snoc {n : Int} {rows : List (List Int)} {k : Nat} {hlt : k < rows.length} (HA : Hid (∀ i (h : i < rows.length), i < k → PairP n rows[i])) (hd : PairP n rows[k]) :
    Hid (∀ i (h : i < rows.length), i < k + 1 → PairP n rows[i]) := by
  intro j h hj
  rcases Nat.lt_or_ge j k with h1 | h1
  · exact HA j h h1
  · obtain rfl : j = k := by omega
    exact hd

set_option maxHeartbeats 1000000 in
theorem implNetworkOk (n : Int) (v : Value) (rows : List (List Int)) (w : World) (h : IntSS w v rows) :
    Calls Try.prog 16 #[.agg #[.int .i64 n, v]] w (GivesB w (tf (NetP n rows))) := by
  obtain ⟨ao, cap, rfl, hcap, hmax, hnil, hcell⟩ := h
  have HC := Lib.hid hcell; clear hcell
  unfold maxLen at hmax
  by_cases hn : InP 1 n 8
  · have ht := tf_yes hn
    by_cases h60 : rows.length ≤ 60
    · have HN : Hid (InP 1 n 8 ∧ rows.length ≤ 60) := ⟨hn, h60⟩
      clear hn
      go_enter Try.func16, Try.ntmps16
      go_wp2_with (go_at_call 30; refine (isWires _ _).mono ?_; rintro e w' ⟨rfl, rfl⟩)
      go_loopw [18] (fun i wr => ∃ k : Nat, k ≤ rows.length ∧ i = .int .i64 k ∧ Hid (∀ i (h : i < rows.length), i < k → PairP n rows[i]) ∧ Below (w.heap.size + 1) (w.alloc (.cells #[.int .i64 n, .slice ao rows.length cap] 26)) wr) (fun i _ => rows.length - (intOf i).toNat)
      case atStart => exact ⟨0, Nat.zero_le _, rfl, fun _ _ h => absurd h (Nat.not_lt_zero _), Below.refl _ _⟩
      case round =>
        obtain ⟨k, hk, rfl, HA, hb⟩ := hrel
        by_cases hlt : k < rows.length
        · obtain ⟨b, o, u, rfl, hu, hI⟩ := HC.out k hlt
          have hk0 : Keeps w wr := (Below.keeps ((Below.refl _ w).alloc (Nat.le_refl _) _)).trans (Below.keeps (by simpa using hb))
          have c1 := hk0 _ _ hu
          have hI := hI.keep hk0
          have cn : wr.cell? ⟨w.heap.size, 0, none⟩ = some (.int .i64 n) := by rw [hb.cell (p := ⟨w.heap.size, 0, none⟩) (by simp)]; simp [go_sem]
          have cv : wr.cell? ⟨w.heap.size, 1, none⟩ = some (.slice (some ⟨b, o, none⟩) rows.length cap) := by rw [hb.cell (p := ⟨w.heap.size, 1, none⟩) (by simp)]; simp [go_sem]
          have HK := Lib.hid hk0
          clear hu hk0
          rcases pair_ways n rows[k] with ⟨h1, hd⟩ | ⟨p, q, hp, hw⟩
          · have HR := Lib.hid (tf_no (p := NetP n rows) fun h => hd (h.2.2 k hlt))
            obtain ⟨a2, cp2, rfl, g1, g2, _, _⟩ := hI
            clear hd
            unfold maxLen at g2
            go_wp2
            go_quiet (fail)
            go_wp2
            go_ret
            exact ⟨ret_bool HR.out.symm, below_drewN (((Below.refl _ w).alloc (Nat.le_refl _) _).trans (hb.mono (by omega))) _⟩
          · rw [hp] at hI
            obtain ⟨pb, po, pc, rfl, g1, g2, d0, d1, _, _⟩ := ints_pair hI
            unfold maxLen at g2
            clear hI hp
            rcases hw with ⟨e1, hd⟩ | ⟨e1, e2, hd⟩ | ⟨e1, e2, e3, hd⟩ | ⟨e1, e2, e3, hd⟩
            · have HR := Lib.hid (tf_no (p := NetP n rows) fun h => hd (h.2.2 k hlt))
              clear hd
              go_wp2
              go_quiet (fail)
              go_wp2
              go_ret
              exact ⟨ret_bool HR.out.symm, below_drewN (((Below.refl _ w).alloc (Nat.le_refl _) _).trans (hb.mono (by omega))) _⟩
            · have HR := Lib.hid (tf_no (p := NetP n rows) fun h => hd (h.2.2 k hlt))
              have HB : Hid (Below w.heap.size w wr) := ((Below.refl _ w).alloc (Nat.le_refl _) _).trans (hb.mono (by omega))
              have z0 : w.heap.size < wr.heap.size := by have := hb.size; simp at this; omega
              have z1 : pb < wr.heap.size := World.block_lt_of_cell? wr _ d0
              clear hd hb
              go_wp2
              refine wp_region_up_lit (by kernel_rfl) (by kernel_rfl) ?_
              repeat (go_big_quiet_step ((go_at_call 31; exact up_calls (isWire _ _ _ _))))
              refine up_end ?_
              intro wq hbq
              have R := Lib.hid (HB.out.trans (hbq.mono HB.out.size))
              clear hbq
              go_wp2
              go_ret
              exact ⟨ret_bool HR.out.symm, R.out⟩
            · have HR := Lib.hid (tf_no (p := NetP n rows) fun h => hd (h.2.2 k hlt))
              have HB : Hid (Below w.heap.size w wr) := ((Below.refl _ w).alloc (Nat.le_refl _) _).trans (hb.mono (by omega))
              have z0 : w.heap.size < wr.heap.size := by have := hb.size; simp at this; omega
              have z1 : pb < wr.heap.size := World.block_lt_of_cell? wr _ d0
              clear hd hb
              go_wp2
              refine wp_region_up_lit (by kernel_rfl) (by kernel_rfl) ?_
              repeat (go_big_quiet_step ((go_at_call 31; exact up_calls (isWire _ _ _ _))))
              refine up_end ?_
              intro wq hbq
              have R := Lib.hid (HB.out.trans (hbq.mono HB.out.size))
              clear hbq
              go_wp2
              go_ret
              exact ⟨ret_bool HR.out.symm, R.out⟩
            · have HR := pair_snoc HA hd
              have HB : Hid (Below (w.heap.size + 1) (w.alloc (.cells #[.int .i64 n, .slice (some ⟨b, o, none⟩) rows.length cap] 26)) wr) := hb
              have z0 : w.heap.size < wr.heap.size := by have := hb.size; simp at this; omega
              have z1 : pb < wr.heap.size := World.block_lt_of_cell? wr _ d0
              clear hd hb
              go_wp2
              refine wp_region_up_lit (by kernel_rfl) (by kernel_rfl) ?_
              repeat (go_big_quiet_step ((go_at_call 31; exact up_calls (isWire _ _ _ _))))
              refine up_end ?_
              intro wq hbq
              have R := Lib.hid (HB.out.trans (hbq.mono (by omega)))
              clear hbq
              go_wp2
              go_roundw
              case rel => exact ⟨k + 1, by omega, by go_num, HR, R.out⟩
              case measure => simp [intOf]; omega
        · have HR := Lib.hid (tf_yes (p := NetP n rows) ⟨HN.out.1, HN.out.2, fun i h => HA i h (by omega)⟩)
          go_wp2
          go_ret
          exact ⟨ret_bool HR.out.symm, ((Below.refl _ w).alloc (Nat.le_refl _) _).trans (hb.mono (by omega))⟩
    · have HR := Lib.hid (tf_no (p := NetP n rows) fun h => h60 h.2.1)
      have h60b : decide ((60 : Int) < (rows.length : Int)) = true := decide_eq_true (by omega)
      clear hn h60
      go_enter Try.func16, Try.ntmps16
      go_wp2_with (go_at_call 30; refine (isWires _ _).mono ?_; rintro e w' ⟨rfl, rfl⟩)
      go_ret
      exact ⟨ret_bool HR.out.symm, (Below.refl _ _).alloc (Nat.le_refl _) _⟩
  · have HR := Lib.hid (tf_no (p := NetP n rows) fun h => hn h.1)
    have ht := tf_no hn
    clear hn
    go_enter Try.func16, Try.ntmps16
    go_wp2_with (go_at_call 30; refine (isWires _ _).mono ?_; rintro e w' ⟨rfl, rfl⟩)
    go_ret
    exact ⟨ret_bool HR.out.symm, (Below.refl _ _).alloc (Nat.le_refl _) _⟩
theorem specIn' (n lo hi : Int) (w : World) : Calls Try.prog 28 #[.int .i64 n, .int .i64 lo, .int .i64 hi] w (GivesB w (tf (InP lo n hi))) :=
  (specIn n lo hi w).mono fun e w' ⟨he, hw⟩ => ⟨he, by rw [← hw]; exact Below.refl _ _⟩

theorem pair_ways2 (n : Int) (p : List Int) : (((p.length : Int) != 2) = true ∧ ¬ PairP n p) ∨ ∃ a b, p = [a, b] ∧
    ((tf (InP 0 a (n - 1)) = false ∧ ¬ PairP n p) ∨ (tf (InP 0 a (n - 1)) = true ∧ tf (InP 0 b (n - 1)) = false ∧ ¬ PairP n p) ∨
     (tf (InP 0 a (n - 1)) = true ∧ tf (InP 0 b (n - 1)) = true ∧ (a == b) = true ∧ ¬ PairP n p) ∨
     (tf (InP 0 a (n - 1)) = true ∧ tf (InP 0 b (n - 1)) = true ∧ (a == b) = false ∧ PairP n p)) := by
  by_cases hl : p.length = 2
  · right
    match p, hl with
    | [a, b], _ =>
      refine ⟨a, b, rfl, ?_⟩
      rcases Classical.em (InP 0 a (n - 1)) with h1 | h1
      · rcases Classical.em (InP 0 b (n - 1)) with h2 | h2
        · by_cases hab : a = b
          · exact .inr (.inr (.inl ⟨tf_yes h1, tf_yes h2, by simp [hab], fun ⟨x, y, h, _, _, hne⟩ => by simp at h; omega⟩))
          · exact .inr (.inr (.inr ⟨tf_yes h1, tf_yes h2, by simp [hab], a, b, rfl, h1, h2, hab⟩))
        · exact .inr (.inl ⟨tf_yes h1, tf_no h2, fun ⟨x, y, h, _, h4, _⟩ => by simp at h; obtain ⟨rfl, rfl⟩ := h; exact h2 h4⟩)
      · exact .inl ⟨tf_no h1, fun ⟨x, y, h, h3, _, _⟩ => by simp at h; obtain ⟨rfl, rfl⟩ := h; exact h1 h3⟩
  · exact .inl ⟨by rw [bne_iff_ne]; omega, fun ⟨x, y, h, _⟩ => by subst h; exact hl rfl⟩

set_option maxHeartbeats 1000000 in
theorem specNetworkOk (n : Int) (v : Value) (rows : List (List Int)) (w : World) (h : IntSS w v rows) :
    Calls Try.prog 12 #[.agg #[.int .i64 n, v]] w (GivesB w (tf (NetP n rows))) := by
  obtain ⟨ao, cap, rfl, hcap, hmax, hnil, hcell⟩ := h
  have HC := Lib.hid hcell; clear hcell
  unfold maxLen at hmax
  by_cases hn : InP 1 n 8
  · have ht := tf_yes hn
    have hwn : wrap64 (n - 1) = n - 1 := IntWalk.wrap64_in _ ⟨by unfold InP at hn; omega, by unfold InP at hn; omega⟩
    by_cases h60 : rows.length ≤ 60
    · have HN : Hid (InP 1 n 8 ∧ rows.length ≤ 60) := ⟨hn, h60⟩
      clear hn
      go_enter Try.func12, Try.ntmps12
      go_wp2_with (go_at_call 28; refine (specIn _ _ _ _).mono ?_; rintro e w' ⟨rfl, rfl⟩)
      go_loopw [18] (fun i wr => ∃ k : Nat, k ≤ rows.length ∧ i = .int .i64 k ∧ Hid (∀ i (h : i < rows.length), i < k → PairP n rows[i]) ∧ Below (w.heap.size + 1) (w.alloc (.cells #[.int .i64 n, .slice ao rows.length cap] 26)) wr) (fun i _ => rows.length - (intOf i).toNat)
      case atStart => exact ⟨0, Nat.zero_le _, rfl, fun _ _ h => absurd h (Nat.not_lt_zero _), Below.refl _ _⟩
      case round =>
        obtain ⟨k, hk, rfl, HA, hb⟩ := hrel
        by_cases hlt : k < rows.length
        · obtain ⟨b, o, u, rfl, hu, hI⟩ := HC.out k hlt
          have hk0 : Keeps w wr := (Below.keeps ((Below.refl _ w).alloc (Nat.le_refl _) _)).trans (Below.keeps (by simpa using hb))
          have c1 := hk0 _ _ hu
          have hI := hI.keep hk0
          have cn : wr.cell? ⟨w.heap.size, 0, none⟩ = some (.int .i64 n) := by rw [hb.cell (p := ⟨w.heap.size, 0, none⟩) (by simp)]; simp [go_sem]
          have cv : wr.cell? ⟨w.heap.size, 1, none⟩ = some (.slice (some ⟨b, o, none⟩) rows.length cap) := by rw [hb.cell (p := ⟨w.heap.size, 1, none⟩) (by simp)]; simp [go_sem]
          have HK := Lib.hid hk0
          clear hu hk0
          rcases pair_ways2 n rows[k] with ⟨h1, hd⟩ | ⟨p, q, hp, hw⟩
          · have HR := Lib.hid (tf_no (p := NetP n rows) fun h => hd (h.2.2 k hlt))
            obtain ⟨a2, cp2, rfl, g1, g2, _, _⟩ := hI
            clear hd
            unfold maxLen at g2
            go_wp2
            go_quiet (fail)
            go_wp2
            go_ret
            exact ⟨ret_bool HR.out.symm, below_drewN (((Below.refl _ w).alloc (Nat.le_refl _) _).trans (hb.mono (by omega))) _⟩
          · rw [hp] at hI
            obtain ⟨pb, po, pc, rfl, g1, g2, d0, d1, _, _⟩ := ints_pair hI
            unfold maxLen at g2
            clear hI hp
            rcases hw with ⟨e1, hd⟩ | ⟨e1, e2, hd⟩ | ⟨e1, e2, e3, hd⟩ | ⟨e1, e2, e3, hd⟩
            · have HR := Lib.hid (tf_no (p := NetP n rows) fun h => hd (h.2.2 k hlt))
              have HB : Hid (Below w.heap.size w wr) := ((Below.refl _ w).alloc (Nat.le_refl _) _).trans (hb.mono (by omega))
              have z0 : w.heap.size < wr.heap.size := by have := hb.size; simp at this; omega
              have z1 : pb < wr.heap.size := World.block_lt_of_cell? wr _ d0
              clear hd hb
              go_wp2
              refine wp_region_up_lit (by kernel_rfl) (by kernel_rfl) ?_
              repeat (go_big_quiet_step ((go_at_call 28; exact up_calls (specIn' _ _ _ _))))
              refine up_end ?_
              intro wq hbq
              have R := Lib.hid (HB.out.trans (hbq.mono HB.out.size))
              clear hbq
              go_wp2
              go_ret
              exact ⟨ret_bool HR.out.symm, R.out⟩
            · have HR := Lib.hid (tf_no (p := NetP n rows) fun h => hd (h.2.2 k hlt))
              have HB : Hid (Below w.heap.size w wr) := ((Below.refl _ w).alloc (Nat.le_refl _) _).trans (hb.mono (by omega))
              have z0 : w.heap.size < wr.heap.size := by have := hb.size; simp at this; omega
              have z1 : pb < wr.heap.size := World.block_lt_of_cell? wr _ d0
              clear hd hb
              go_wp2
              refine wp_region_up_lit (by kernel_rfl) (by kernel_rfl) ?_
              repeat (go_big_quiet_step ((go_at_call 28; exact up_calls (specIn' _ _ _ _))))
              refine up_end ?_
              intro wq hbq
              have R := Lib.hid (HB.out.trans (hbq.mono HB.out.size))
              clear hbq
              go_wp2
              go_ret
              exact ⟨ret_bool HR.out.symm, R.out⟩
            · have HR := Lib.hid (tf_no (p := NetP n rows) fun h => hd (h.2.2 k hlt))
              have HB : Hid (Below w.heap.size w wr) := ((Below.refl _ w).alloc (Nat.le_refl _) _).trans (hb.mono (by omega))
              have z0 : w.heap.size < wr.heap.size := by have := hb.size; simp at this; omega
              have z1 : pb < wr.heap.size := World.block_lt_of_cell? wr _ d0
              clear hd hb
              go_wp2
              refine wp_region_up_lit (by kernel_rfl) (by kernel_rfl) ?_
              repeat (go_big_quiet_step ((go_at_call 28; exact up_calls (specIn' _ _ _ _))))
              refine up_end ?_
              intro wq hbq
              have R := Lib.hid (HB.out.trans (hbq.mono HB.out.size))
              clear hbq
              go_wp2
              go_ret
              exact ⟨ret_bool HR.out.symm, R.out⟩
            · have HR := pair_snoc HA hd
              have HB : Hid (Below (w.heap.size + 1) (w.alloc (.cells #[.int .i64 n, .slice (some ⟨b, o, none⟩) rows.length cap] 26)) wr) := hb
              have z0 : w.heap.size < wr.heap.size := by have := hb.size; simp at this; omega
              have z1 : pb < wr.heap.size := World.block_lt_of_cell? wr _ d0
              clear hd hb
              go_wp2
              refine wp_region_up_lit (by kernel_rfl) (by kernel_rfl) ?_
              repeat (go_big_quiet_step ((go_at_call 28; exact up_calls (specIn' _ _ _ _))))
              refine up_end ?_
              intro wq hbq
              have R := Lib.hid (HB.out.trans (hbq.mono (by omega)))
              clear hbq
              go_wp2
              go_roundw
              case rel => exact ⟨k + 1, by omega, by go_num, HR, R.out⟩
              case measure => simp [intOf]; omega
        · have HR := Lib.hid (tf_yes (p := NetP n rows) ⟨HN.out.1, HN.out.2, fun i h => HA i h (by omega)⟩)
          go_wp2
          go_ret
          exact ⟨ret_bool HR.out.symm, ((Below.refl _ w).alloc (Nat.le_refl _) _).trans (hb.mono (by omega))⟩
    · have HR := Lib.hid (tf_no (p := NetP n rows) fun h => h60 h.2.1)
      have h60b : decide ((60 : Int) < (rows.length : Int)) = true := decide_eq_true (by omega)
      clear hn h60
      go_enter Try.func12, Try.ntmps12
      go_wp2_with (go_at_call 28; refine (specIn _ _ _ _).mono ?_; rintro e w' ⟨rfl, rfl⟩)
      go_ret
      exact ⟨ret_bool HR.out.symm, (Below.refl _ _).alloc (Nat.le_refl _) _⟩
  · have HR := Lib.hid (tf_no (p := NetP n rows) fun h => hn h.1)
    have ht := tf_no hn
    clear hn
    go_enter Try.func12, Try.ntmps12
    go_wp2_with (go_at_call 28; refine (specIn _ _ _ _).mono ?_; rintro e w' ⟨rfl, rfl⟩)
    go_ret
    exact ⟨ret_bool HR.out.symm, (Below.refl _ _).alloc (Nat.le_refl _) _⟩
end Go.Proofs.Ythcnmaapcniehaa
