/- Contracts: UseOf, the program's and the reference's: how many masks each comparator exchanges. -/
import Derived.Test.YtelilimkcboioaaApply
import Derived.Test.YtelilimkcboioaaUp
import Derived.Test.YtelilimkcboioaaFill
import Derived.Test.YtelilimkcboioaaNetB
import Derived.RegionTactic
namespace Go.Proofs.Ytelilimkcboioaa
open Go.RowKit
set_option linter.unusedVariables false

/-- Whether comparator k exchanges the bits that come to it. -/
def exB (ps : List (Nat × Nat)) (mask k : Nat) : Bool := stepN (bitsN (ps.take k) mask) (ps.getD k (0, 0)).1 (ps.getD k (0, 0)).2 != bitsN (ps.take k) mask
def usIn (ps : List (Nat × Nat)) (mask : Nat) : Nat → List Int → List Int
  | 0, ys => ys
  | k + 1, ys => if exB ps mask k then (usIn ps mask k ys).set k ((usIn ps mask k ys).getD k 0 + 1) else usIn ps mask k ys
def usOut (ps : List (Nat × Nat)) : Nat → List Int
  | 0 => List.replicate ps.length 0
  | m + 1 => usIn ps m ps.length (usOut ps m)
theorem usIn_length (ps : List (Nat × Nat)) (mask k : Nat) (ys : List Int) : (usIn ps mask k ys).length = ys.length := by
  induction k with
  | zero => rfl
  | succ k ih => unfold usIn; split <;> simp [ih]
theorem usOut_length (ps : List (Nat × Nat)) (m : Nat) : (usOut ps m).length = ps.length := by
  induction m with
  | zero => simp [usOut]
  | succ m ih => unfold usOut; rw [usIn_length, ih]
theorem usIn_get (ps : List (Nat × Nat)) (mask k : Nat) (ys : List Int) (j : Nat) : (usIn ps mask k ys).getD j 0 = ys.getD j 0 ∨ j < k ∧ (usIn ps mask k ys).getD j 0 = ys.getD j 0 + 1 := by
  induction k with
  | zero => exact .inl rfl
  | succ k ih =>
    unfold usIn
    split
    · rcases Nat.lt_or_ge k (usIn ps mask k ys).length with hk | hk
      · by_cases hj : j = k
        · subst hj
          rcases ih with ih | ih
          · right; exact ⟨Nat.lt_succ_self _, by rw [List.getD_eq_getElem?_getD, List.getElem?_set_self hk, Option.getD_some, ih]⟩
          · omega
        · have e : ((usIn ps mask k ys).set k ((usIn ps mask k ys).getD k 0 + 1)).getD j 0 = (usIn ps mask k ys).getD j 0 := by
            rw [List.getD_eq_getElem?_getD, List.getElem?_set_ne (Ne.symm hj), ← List.getD_eq_getElem?_getD]
          rw [e]
          rcases ih with ih | ih
          · exact .inl ih
          · exact .inr ⟨by omega, ih.2⟩
      · rw [List.set_eq_of_length_le hk]
        rcases ih with ih | ih
        · exact .inl ih
        · exact .inr ⟨by omega, ih.2⟩
    · rcases ih with ih | ih
      · exact .inl ih
      · exact .inr ⟨by omega, ih.2⟩
theorem usOut_get (ps : List (Nat × Nat)) (m j : Nat) : 0 ≤ (usOut ps m).getD j 0 ∧ (usOut ps m).getD j 0 ≤ m := by
  induction m with
  | zero =>
    unfold usOut
    rcases Nat.lt_or_ge j ps.length with hj | hj
    · simp [List.getD_eq_getElem?_getD, hj]
    · simp [List.getD_eq_getElem?_getD, Nat.not_lt.2 hj]
  | succ m ih =>
    unfold usOut
    rcases usIn_get ps m ps.length (usOut ps m) j with h | h <;> omega
theorem usIn_mid (ps : List (Nat × Nat)) (m k j : Nat) : 0 ≤ (usIn ps m k (usOut ps m)).getD j 0 ∧ (usIn ps m k (usOut ps m)).getD j 0 ≤ m + 1 := by
  have := usOut_get ps m j
  rcases usIn_get ps m k (usOut ps m) j with h | h <;> omega
theorem usIn_at (ps : List (Nat × Nat)) (m k : Nat) (ys : List Int) : (usIn ps m k ys).getD k 0 = ys.getD k 0 := by
  rcases usIn_get ps m k ys k with h | h
  · exact h
  · omega
theorem usIn_yes {ps : List (Nat × Nat)} {m k : Nat} {ys : List Int} (h : exB ps m k = true) : usIn ps m (k + 1) ys = (usIn ps m k ys).set k ((usIn ps m k ys).getD k 0 + 1) := by
  conv => lhs; unfold usIn
  rw [if_pos h]
theorem usIn_no {ps : List (Nat × Nat)} {m k : Nat} {ys : List Int} (h : exB ps m k = false) : usIn ps m (k + 1) ys = usIn ps m k ys := by
  conv => lhs; unfold usIn
  rw [if_neg (by simp [h])]
theorem step_moves (m i k : Nat) (hm : m < 256) (hi : i < 8) (hk : k < 8) (hik : i ≠ k) (h1 : m / 2 ^ i % 2 = 1) (h2 : m / 2 ^ k % 2 = 0) : stepN m i k ≠ m := by
  have H : ∀ m : Fin 256, ∀ i k : Fin 8, i.val ≠ k.val → m.val / 2 ^ i.val % 2 = 1 → m.val / 2 ^ k.val % 2 = 0 → stepN m.val i.val k.val ≠ m.val := by decide +kernel
  exact H ⟨m, hm⟩ ⟨i, hi⟩ ⟨k, hk⟩ hik h1 h2
def useL (N : Nat) (ps : List (Nat × Nat)) : List Int := usOut ps (2 ^ N)
theorem useL_in (N : Nat) (ps : List (Nat × Nat)) : ∀ x ∈ useL N ps, 0 ≤ x ∧ x ≤ ((2 ^ N : Nat) : Int) := by
  intro x hx
  obtain ⟨j, hj, rfl⟩ := List.getElem_of_mem hx
  have := usOut_get ps (2 ^ N) j
  have e : (usOut ps (2 ^ N)).getD j 0 = (useL N ps)[j] := by show (useL N ps).getD j 0 = _; rw [List.getD_eq_getElem?_getD, List.getElem?_eq_getElem hj]; rfl
  rw [e] at this; exact this


set_option maxHeartbeats 1600000 in
set_option maxRecDepth 100000 in
theorem l06Use (N : Nat) (v : Value) (ps : List (Nat × Nat)) (w : World) (h : IntSS w v (rowsOf ps)) (hp : PsOk N ps) :
    Calls Try.prog 41 #[.agg #[.int .i64 N, v]] w (GivesI w (useL N ps)) := by
  obtain ⟨ao, cap, rfl, hcap, hmax, hnil, hcell⟩ := pairs_open h
  have HC := Lib.hid hcell; clear hcell h
  have HP := Lib.hid hp
  unfold maxLen at hmax
  have hN8 := hp.2.1
  have hw := wrap_pow N hN8
  have hq := pow_le8 N hN8
  have hc := nat_pow_cast N
  have h60 : ps.length ≤ 60 := HP.out.2.2.1
  clear hp
  have HU : Hid (useL N ps = usOut ps (2 ^ N) ∧ ∀ x ∈ useL N ps, 0 ≤ x ∧ x ≤ ((2 ^ N : Nat) : Int)) := ⟨rfl, useL_in N ps⟩
  obtain ⟨M, HM⟩ : ∃ M : Nat, Hid (2 ^ N = M) := ⟨_, rfl⟩
  have hM : (2 : Int) ^ N = (M : Int) := by rw [← hc, HM.out]
  rw [HM.out] at HU
  rw [hM] at hw hq
  clear hc
  obtain ⟨i0, hi, hz0, hz1, hz2⟩ := info_parts infoInt
  go_enter Try.func41, Try.ntmps41
  go_wp2_with (at_make; refine wpList_make_full _ rfl _ _ 38 rfl w.heap.size 3 i0 (.int .i64 0) 1 Try.underlying38 hi hz0 hz1 .i64 .i64 _ _ ps.length rfl rfl rfl rfl ?_ ?_ ?_ ?_)
  · rw [hz2]; omega
  · unfold maxLen; omega
  · simp
  intro w1 hown hg
  have F0 : Fills tInt w.heap.size (w.heap.size + 1) ps.length w1 ps.length (List.replicate ps.length 0) := fills_zero (by simpa [toList_madeCells_one] using hown)
  have hb1 : Below (w.heap.size + 1) (w.alloc (.cells #[.int .i64 N, .slice ao ps.length cap] 26)) w1 := (Below.refl _ _).grown hg (by simp) (fun k h => by cases h)
  have hb0 : Below w.heap.size w w1 := ((Below.refl _ w).alloc (Nat.le_refl _) _).trans (hb1.mono (Nat.le_succ _))
  have hs0 : w.heap.size + 1 < w1.heap.size := by have := (hown.lt _ rfl).2; simpa using this
  have hs00 : w.heap.size < w1.heap.size := by omega
  have cn : w1.cell? ⟨w.heap.size, 0, none⟩ = some (.int .i64 N) := (hb1.cell (p := ⟨w.heap.size, 0, none⟩) (Nat.lt_succ_self _)).trans (by simp [go_sem])
  have cv : w1.cell? ⟨w.heap.size, 1, none⟩ = some (.slice ao ps.length cap) := (hb1.cell (p := ⟨w.heap.size, 1, none⟩) (Nat.lt_succ_self _)).trans (by simp [go_sem])
  clear hown hg hi hz0 hz1 hz2 hb1
  go_wp2
  go_loopw [4] (fun i wr => ∃ m : Nat, m ≤ M ∧ i = .int .i64 m ∧ ∃ ys : List Int, Fills tInt w.heap.size (w.heap.size + 1) ps.length wr ps.length ys ∧ Hid (ys = usOut ps m) ∧ Below w.heap.size w wr ∧ w.heap.size + 1 < wr.heap.size ∧ wr.cell? ⟨w.heap.size, 0, none⟩ = some (.int .i64 N) ∧ wr.cell? ⟨w.heap.size, 1, none⟩ = some (.slice ao ps.length cap)) (fun i _ => M - (intOf i).toNat)
  case atStart => exact ⟨0, Nat.zero_le _, rfl, _, F0, Lib.hid rfl, hb0, hs0, cn, cv⟩
  case round =>
    obtain ⟨m, hm, rfl, ys, F, HT, hb, hs, cn, cv⟩ := hrel
    by_cases hlt : m < M
    · have hm256 : m < 256 := by omega
      go_wp2
      go_loopw [5, 23] (fun q i wi => ∃ k : Nat, k ≤ ps.length ∧ i = .int .i64 k ∧ ∃ qn : Nat, q = .int .i64 qn ∧ Hid (qn = bitsN (ps.take k) m) ∧ ∃ ys : List Int, Fills tInt w.heap.size (w.heap.size + 1) ps.length wi ps.length ys ∧ Hid (ys = usIn ps m k (usOut ps m)) ∧ Below w.heap.size w wi ∧ w.heap.size + 1 < wi.heap.size ∧ wi.cell? ⟨w.heap.size, 0, none⟩ = some (.int .i64 N) ∧ wi.cell? ⟨w.heap.size, 1, none⟩ = some (.slice ao ps.length cap)) (fun _ i _ => ps.length - (intOf i).toNat)
      case atStart => exact ⟨0, Nat.zero_le _, rfl, m, rfl, Lib.hid rfl, ys, F, HT, hb, hs, cn, cv⟩
      case round =>
        clear F HT hb hs cn cv
        obtain ⟨k, hk, rfl, q, rfl, HQ, ys, F, HT, hb, hs, cn, cv⟩ := hrel
        by_cases hlk : k < ps.length
        · obtain ⟨b, o, x, po, pc, rfl, hu, g1, g2, d0, d1⟩ := HC.out k hlk
          have c1 := Below.keeps hb _ _ hu
          have c2 := Below.keeps hb _ _ d0
          have c3 := Below.keeps hb _ _ d1
          have hxw : x < w.heap.size := World.block_lt_of_cell? w _ d0
          have hq256 : q < 256 := by rw [HQ.out]; exact bitsN_lt HP.out m hm256 k hk
          obtain ⟨hn1, hn8, _, hall⟩ := HP.out
          obtain ⟨p1, p2, p3⟩ := hall k hlk
          have HS : Hid (stepN q ps[k].1 ps[k].2 = bitsN (ps.take (k + 1)) m) := by show _ = _; rw [bitsN_snoc ps m k hlk, HQ.out]
          have HX : Hid (exB ps m k = (stepN q ps[k].1 ps[k].2 != q)) := by
            show _ = _; unfold exB; rw [← HQ.out]; simp [List.getD_eq_getElem?_getD, List.getElem?_eq_getElem hlk]
          have p1' : ps[k].1 < 8 := by omega
          have p2' : ps[k].2 < 8 := by omega
          have hwi := wrap_pow ps[k].1 (by omega)
          have hwk := wrap_pow ps[k].2 (by omega)
          have e1 := F.getD k hlk
          have e2 := F.frozen k
          have hz := usIn_mid ps m k k
          rw [← HT.out] at hz
          obtain ⟨z, HZ⟩ : ∃ z, Hid (ys.getD k 0 = z) := ⟨_, Lib.hid rfl⟩
          rw [HZ.out] at e1 hz
          have F2 := F.set k (z + 1)
          have hbA : Below w.heap.size w (wr.setCell ⟨w.heap.size + 1, k, none⟩ (.int .i64 (z + 1))) := hb.setCell (Nat.le_succ _) _
          have cn2 := chg_cell (chg_setCell wr (w.heap.size + 1) k (.int .i64 (z + 1))) (.inl (Nat.lt_succ_self _)) cn
          have cv2 := chg_cell (chg_setCell wr (w.heap.size + 1) k (.int .i64 (z + 1))) (.inl (Nat.lt_succ_self _)) cv
          clear hu d0 d1 hall p1 p2 p3
          unfold maxLen at g2
          have p3 : ps[k].1 ≠ ps[k].2 := (HP.out.2.2.2 k hlk).2.2
          rcases step_ways q ps[k].1 ps[k].2 hq256 p1' p2' with ⟨h1, h2, h3, h4⟩ | ⟨h1, h2, h3⟩ | ⟨h1, h3⟩
          · obtain ⟨_, x1, x2, x3⟩ := step_swap q ps[k].1 ps[k].2 hq256 p1' p2' h3 h4
            have hne := step_moves q ps[k].1 ps[k].2 hq256 p1' p2' p3 h3 h4
            have HB := Lib.hid (usIn_yes (ys := usOut ps m) (show exB ps m k = true by rw [HX.out]; simpa using hne))
            have hb1 : ((Go.bits BinOp.and IntKind.i64 ((q : Int) / 2 ^ ps[k].2) 1) == 0) = true := by rw [h2]; rfl
            have y1 : wrap64 ((q : Int) - 2 ^ ps[k].1) = (q : Int) - 2 ^ ps[k].1 := IntWalk.wrap64_in _ ⟨by omega, by have := pow_pos ps[k].1; omega⟩
            have y2 : wrap64 ((q : Int) - 2 ^ ps[k].1 + 2 ^ ps[k].2) = (stepN q ps[k].1 ps[k].2 : Int) := by rw [x2]; exact IntWalk.wrap64_in _ ⟨by omega, by omega⟩
            clear h3 h4 x1 x2 x3 hne p3
            go_wp2
            go_quiet (fail)
            go_wp2
            go_roundw
            case rel => exact ⟨k + 1, by omega, by go_num, stepN q ps[k].1 ps[k].2, by first | rfl | rw [y2], HS, _, F2, Lib.hid (by rw [HB.out, ← HT.out, HZ.out]), by first | exact below_drewN hbA _ | exact hbA, by simpa using hs, by first | exact cn2 | simpa using cn2, by first | exact cv2 | simpa using cv2⟩
            case measure => simp [intOf]; omega
          · have HB := Lib.hid (usIn_no (ys := usOut ps m) (show exB ps m k = false by rw [HX.out, h3]; simp))
            have HS2 : Hid (q = bitsN (ps.take (k + 1)) m) := by show _ = _; rw [← HS.out, h3]
            clear h3 p3
            go_wp2
            go_roundw
            case rel => exact ⟨k + 1, by omega, by go_num, q, rfl, HS2, ys, F, Lib.hid (by rw [HB.out]; exact HT.out), hb, hs, cn, cv⟩
            case measure => simp [intOf]; omega
          · have HB := Lib.hid (usIn_no (ys := usOut ps m) (show exB ps m k = false by rw [HX.out, h3]; simp))
            have HS2 : Hid (q = bitsN (ps.take (k + 1)) m) := by show _ = _; rw [← HS.out, h3]
            clear h3 p3
            go_wp2
            go_roundw
            case rel => exact ⟨k + 1, by omega, by go_num, q, rfl, HS2, ys, F, Lib.hid (by rw [HB.out]; exact HT.out), hb, hs, cn, cv⟩
            case measure => simp [intOf]; omega
        · have HE : Hid (ys = usOut ps (m + 1)) := by show _ = _; rw [HT.out, show k = ps.length by omega]; rfl
          clear HT HQ
          go_wp2
          go_roundw
          case rel => exact ⟨m + 1, by omega, by go_num, ys, F, HE, hb, hs, cn, cv⟩
          case measure => simp [intOf]; omega
    · have hmM : m = M := by omega
      have R : OwnI tInt wr w.heap.size wr.heap.size (.slice (some ⟨w.heap.size + 1, 0, none⟩) ps.length ps.length) (useL N ps) := by
        have e : ys = useL N ps := by rw [HU.out.1, ← hmM]; exact HT.out
        subst e
        exact F.own hs fun x hx => WalkArith.wf_i64 (by have := HU.out.2 x hx; omega)
      clear HT F
      go_wp2
      go_ret
      exact ⟨_, rfl, R, hb⟩


set_option maxHeartbeats 1600000 in
set_option maxRecDepth 100000 in
theorem uses (N : Nat) (v : Value) (ps : List (Nat × Nat)) (w : World) (h : IntSS w v (rowsOf ps)) (hp : PsOk N ps) :
    Calls Try.prog 44 #[.agg #[.int .i64 N, v]] w (GivesI w (useL N ps)) := by
  obtain ⟨ao, cap, rfl, hcap, hmax, hnil, hcell⟩ := pairs_open h
  have HC := Lib.hid hcell; clear hcell h
  have HP := Lib.hid hp
  unfold maxLen at hmax
  have hN8 := hp.2.1
  have hw := wrap_pow N hN8
  have hq := pow_le8 N hN8
  have hc := nat_pow_cast N
  have h60 : ps.length ≤ 60 := HP.out.2.2.1
  clear hp
  have HU : Hid (useL N ps = usOut ps (2 ^ N) ∧ ∀ x ∈ useL N ps, 0 ≤ x ∧ x ≤ ((2 ^ N : Nat) : Int)) := ⟨rfl, useL_in N ps⟩
  obtain ⟨M, HM⟩ : ∃ M : Nat, Hid (2 ^ N = M) := ⟨_, rfl⟩
  have hM : (2 : Int) ^ N = (M : Int) := by rw [← hc, HM.out]
  rw [HM.out] at HU
  rw [hM] at hw hq
  clear hc
  obtain ⟨i0, hi, hz0, hz1, hz2⟩ := info_parts infoInt
  go_enter Try.func44, Try.ntmps44
  go_wp2_with (at_make; refine wpList_make_full _ rfl _ _ 38 rfl w.heap.size 3 i0 (.int .i64 0) 1 Try.underlying38 hi hz0 hz1 .i64 .i64 _ _ ps.length rfl rfl rfl rfl ?_ ?_ ?_ ?_)
  · rw [hz2]; omega
  · unfold maxLen; omega
  · simp
  intro w1 hown hg
  have F0 : Fills tInt w.heap.size (w.heap.size + 1) ps.length w1 ps.length (List.replicate ps.length 0) := fills_zero (by simpa [toList_madeCells_one] using hown)
  have hb1 : Below (w.heap.size + 1) (w.alloc (.cells #[.int .i64 N, .slice ao ps.length cap] 26)) w1 := (Below.refl _ _).grown hg (by simp) (fun k h => by cases h)
  have hb0 : Below w.heap.size w w1 := ((Below.refl _ w).alloc (Nat.le_refl _) _).trans (hb1.mono (Nat.le_succ _))
  have hs0 : w.heap.size + 1 < w1.heap.size := by have := (hown.lt _ rfl).2; simpa using this
  have hs00 : w.heap.size < w1.heap.size := by omega
  have cn : w1.cell? ⟨w.heap.size, 0, none⟩ = some (.int .i64 N) := (hb1.cell (p := ⟨w.heap.size, 0, none⟩) (Nat.lt_succ_self _)).trans (by simp [go_sem])
  have cv : w1.cell? ⟨w.heap.size, 1, none⟩ = some (.slice ao ps.length cap) := (hb1.cell (p := ⟨w.heap.size, 1, none⟩) (Nat.lt_succ_self _)).trans (by simp [go_sem])
  clear hown hg hi hz0 hz1 hz2 hb1
  go_wp2
  go_loopw [15] (fun i wr => ∃ m : Nat, m ≤ M ∧ i = .int .i64 m ∧ ∃ ys : List Int, Fills tInt w.heap.size (w.heap.size + 1) ps.length wr ps.length ys ∧ Hid (ys = usOut ps m) ∧ Below w.heap.size w wr ∧ w.heap.size + 1 < wr.heap.size ∧ wr.cell? ⟨w.heap.size, 0, none⟩ = some (.int .i64 N) ∧ wr.cell? ⟨w.heap.size, 1, none⟩ = some (.slice ao ps.length cap)) (fun i _ => M - (intOf i).toNat)
  case atStart => exact ⟨0, Nat.zero_le _, rfl, _, F0, Lib.hid rfl, hb0, hs0, cn, cv⟩
  case round =>
    obtain ⟨m, hm, rfl, ys, F, HT, hb, hs, cn, cv⟩ := hrel
    by_cases hlt : m < M
    · have hm256 : m < 256 := by omega
      go_wp2
      go_loopw [4, 21] (fun q i wi => ∃ k : Nat, k ≤ ps.length ∧ i = .int .i64 k ∧ ∃ qn : Nat, q = .int .i64 qn ∧ Hid (qn = bitsN (ps.take k) m) ∧ ∃ ys : List Int, Fills tInt w.heap.size (w.heap.size + 1) ps.length wi ps.length ys ∧ Hid (ys = usIn ps m k (usOut ps m)) ∧ Below w.heap.size w wi ∧ w.heap.size + 1 < wi.heap.size ∧ wi.cell? ⟨w.heap.size, 0, none⟩ = some (.int .i64 N) ∧ wi.cell? ⟨w.heap.size, 1, none⟩ = some (.slice ao ps.length cap)) (fun _ i _ => ps.length - (intOf i).toNat)
      case atStart => exact ⟨0, Nat.zero_le _, rfl, m, rfl, Lib.hid rfl, ys, F, HT, hb, hs, cn, cv⟩
      case round =>
        clear F HT hb hs cn cv
        obtain ⟨k, hk, rfl, q, rfl, HQ, ys, F, HT, hb, hs, cn, cv⟩ := hrel
        by_cases hlk : k < ps.length
        · obtain ⟨b, o, x, po, pc, rfl, hu, g1, g2, d0, d1⟩ := HC.out k hlk
          have c1 := Below.keeps hb _ _ hu
          have c2 := Below.keeps hb _ _ d0
          have c3 := Below.keeps hb _ _ d1
          have hxw : x < w.heap.size := World.block_lt_of_cell? w _ d0
          have hq256 : q < 256 := by rw [HQ.out]; exact bitsN_lt HP.out m hm256 k hk
          obtain ⟨hn1, hn8, _, hall⟩ := HP.out
          obtain ⟨p1, p2, p3⟩ := hall k hlk
          have HS : Hid (stepN q ps[k].1 ps[k].2 = bitsN (ps.take (k + 1)) m) := by show _ = _; rw [bitsN_snoc ps m k hlk, HQ.out]
          have HX : Hid (exB ps m k = (stepN q ps[k].1 ps[k].2 != q)) := by
            show _ = _; unfold exB; rw [← HQ.out]; simp [List.getD_eq_getElem?_getD, List.getElem?_eq_getElem hlk]
          have p1' : ps[k].1 < 8 := by omega
          have p2' : ps[k].2 < 8 := by omega
          have hwi := wrap_pow ps[k].1 (by omega)
          have hwk := wrap_pow ps[k].2 (by omega)
          have e1 := F.getD k hlk
          have e2 := F.frozen k
          have hz := usIn_mid ps m k k
          rw [← HT.out] at hz
          obtain ⟨z, HZ⟩ : ∃ z, Hid (ys.getD k 0 = z) := ⟨_, Lib.hid rfl⟩
          rw [HZ.out] at e1 hz
          have F2 := F.set k (z + 1)
          have hbA : Below w.heap.size w (wr.setCell ⟨w.heap.size + 1, k, none⟩ (.int .i64 (z + 1))) := hb.setCell (Nat.le_succ _) _
          have cn2 := chg_cell (chg_setCell wr (w.heap.size + 1) k (.int .i64 (z + 1))) (.inl (Nat.lt_succ_self _)) cn
          have cv2 := chg_cell (chg_setCell wr (w.heap.size + 1) k (.int .i64 (z + 1))) (.inl (Nat.lt_succ_self _)) cv
          clear hu d0 d1 hall p1 p2 p3
          unfold maxLen at g2
          have p3 : ps[k].1 ≠ ps[k].2 := (HP.out.2.2.2 k hlk).2.2
          have C : Hid (∀ W, Calls Try.prog 70 #[.int .i64 q, .int .i64 (ps[k].1 : Int), .int .i64 (ps[k].2 : Int)] W fun e w' => e = .returned (.int .i64 (stepN q ps[k].1 ps[k].2)) ∧ ∃ n, w' = W.drewN n) :=
            fun W => step q ps[k].1 ps[k].2 W hq256 p1' p2'
          by_cases hne : stepN q ps[k].1 ps[k].2 = q
          · have HB := Lib.hid (usIn_no (ys := usOut ps m) (show exB ps m k = false by rw [HX.out, hne]; simp))
            have HS2 : Hid (q = bitsN (ps.take (k + 1)) m) := by show _ = _; rw [← HS.out, hne]
            rw [hne] at C
            clear hne hwi hwk
            go_wp2
            go_quiet ((go_at_call 70; exact Calls.quiet_of (C.out _)))
            go_wp2
            go_roundw
            case rel => exact ⟨k + 1, by omega, by go_num, q, rfl, HS2, ys, F, Lib.hid (by rw [HB.out]; exact HT.out), below_drewN hb _, hs, cn, cv⟩
            case measure => simp [intOf]; omega
          · have HB := Lib.hid (usIn_yes (ys := usOut ps m) (show exB ps m k = true by rw [HX.out]; simpa using hne))
            obtain ⟨q2, Hq2⟩ : ∃ q2, Hid (stepN q ps[k].1 ps[k].2 = q2) := ⟨_, Lib.hid rfl⟩
            rw [Hq2.out] at hne C HS
            have hne' : ¬ ((q2 : Int) = (q : Int)) := by omega
            have hxx : (((q2 : Int) != (q : Int))) = true := by simpa using hne'
            clear hwi hwk
            go_wp2
            go_quiet ((go_at_call 70; exact Calls.quiet_of (C.out _)))
            go_wp2
            go_roundw
            case rel => exact ⟨k + 1, by omega, by go_num, q2, rfl, HS, _, F2, Lib.hid (by rw [HB.out, ← HT.out, HZ.out]), below_drewN hbA _, by simpa using hs, by first | exact cn2 | simpa using cn2, by first | exact cv2 | simpa using cv2⟩
            case measure => simp [intOf]; omega
        · have HE : Hid (ys = usOut ps (m + 1)) := by show _ = _; rw [HT.out, show k = ps.length by omega]; rfl
          clear HT HQ
          go_wp2
          go_roundw
          case rel => exact ⟨m + 1, by omega, by go_num, ys, F, HE, hb, hs, cn, cv⟩
          case measure => simp [intOf]; omega
    · have hmM : m = M := by omega
      have R : OwnI tInt wr w.heap.size wr.heap.size (.slice (some ⟨w.heap.size + 1, 0, none⟩) ps.length ps.length) (useL N ps) := by
        have e : ys = useL N ps := by rw [HU.out.1, ← hmM]; exact HT.out
        subst e
        exact F.own hs fun x hx => WalkArith.wf_i64 (by have := HU.out.2 x hx; omega)
      clear HT F
      go_wp2
      go_ret
      exact ⟨_, rfl, R, hb⟩

/-- What UseOf returns. -/
noncomputable def useN (n : Int) (rows : List (List Int)) : List Int := bif tf (NetP n rows) then useL n.toNat (pairsOf rows) else []
theorem useN_no {n : Int} {rows : List (List Int)} (h : ¬ NetP n rows) : useN n rows = [] := by unfold useN; rw [tf_no h]; rfl
theorem useN_yes {N : Nat} {rows : List (List Int)} (h : NetP N rows) : useN N rows = useL N (pairsOf rows) := by unfold useN; rw [tf_yes h]; rfl
theorem useL_length (N : Nat) (ps : List (Nat × Nat)) : (useL N ps).length = ps.length := usOut_length ps _
theorem useN_le (n : Int) (rows : List (List Int)) : (useN n rows).length ≤ 60 := by
  rcases Classical.em (NetP n rows) with h | h
  · obtain ⟨N, rfl, _, hp⟩ := h.pairs
    rw [useN_yes h, useL_length]; exact hp.2.2.1
  · rw [useN_no h]; simp

end Go.Proofs.Ytelilimkcboioaa
