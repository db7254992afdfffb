/- ByLevels' comparison: cmp.Compare, cmp.Or, slices.Min of a pair, and the closure; each leaves what was there and lays no more than its own blocks. -/
import Derived.Test.YthcnmaapcniehaaLevels2
import Derived.Test.YthcnmaapcniehaaNetIn
import Derived.Shelf.SlSortCmp.Kit1
import Derived.Test.YthcnmaapcniehaaOwn
namespace Go.Proofs.Ythcnmaapcniehaa
open Go.RowKit
set_option linter.unusedVariables false

def cmpI (x y : Int) : Int := if x < y then -1 else if y < x then 1 else 0
def orI (x y : Int) : Int := if x = 0 then y else x
theorem cmpI_bd (x y : Int) : -1 ≤ cmpI x y ∧ cmpI x y ≤ 1 := by unfold cmpI; split <;> (try split) <;> omega

theorem cmpNaN (x : Int) (w : World) : Calls Try.prog 33 #[.int .i64 x] w fun e w' => e = .returned (.bool false) ∧ w' = w := by
  go_enter Try.func33, Try.ntmps33
  go_wp2
  go_ret
  exact ⟨by simp, rfl⟩
theorem cmpCompare (x y : Int) (w : World) : Calls Try.prog 21 #[.int .i64 x, .int .i64 y] w fun e w' => e = .returned (.int .i64 (cmpI x y)) ∧ w' = w := by
  by_cases h1 : x < y
  · have h2 : ¬ y < x := by omega
    have e : cmpI x y = -1 := by unfold cmpI; rw [if_pos h1]
    rw [e]
    go_enter Try.func21, Try.ntmps21
    go_wp2_with (go_at_call 33; refine (cmpNaN _ _).mono ?_; rintro e _ ⟨rfl, rfl⟩)
    go_ret
    exact ⟨rfl, rfl⟩
  · by_cases h2 : y < x
    · have h3 : x > y := h2
      have e : cmpI x y = 1 := by unfold cmpI; rw [if_neg h1, if_pos h2]
      rw [e]
      go_enter Try.func21, Try.ntmps21
      go_wp2_with (go_at_call 33; refine (cmpNaN _ _).mono ?_; rintro e _ ⟨rfl, rfl⟩)
      go_ret
      exact ⟨rfl, rfl⟩
    · have h3 : ¬ x > y := h2
      have e : cmpI x y = 0 := by unfold cmpI; rw [if_neg h1, if_neg h2]
      rw [e]
      go_enter Try.func21, Try.ntmps21
      go_wp2_with (go_at_call 33; refine (cmpNaN _ _).mono ?_; rintro e _ ⟨rfl, rfl⟩)
      go_ret
      exact ⟨rfl, rfl⟩

theorem cmpOr (b : Nat) (x y : Int) (w : World) (c0 : w.cell? ⟨b, 0, none⟩ = some (.int .i64 x)) (c1 : w.cell? ⟨b, 1, none⟩ = some (.int .i64 y)) :
    Calls Try.prog 20 #[.slice (some ⟨b, 0, none⟩) 2 2] w fun e w' => e = .returned (.int .i64 (orI x y)) ∧ w' = w := by
  go_enter Try.func20, Try.ntmps20
  go_wp2
  go_loop [8] (fun i => ∃ k : Nat, k ≤ 2 ∧ i = .int .i64 k ∧ Hid ((1 ≤ k → x = 0) ∧ (2 ≤ k → y = 0))) (fun i => 2 - (intOf i).toNat)
  case atStart => exact ⟨0, by omega, rfl, Lib.hid ⟨fun h => by omega, fun h => by omega⟩⟩
  case round =>
    obtain ⟨k, hk, rfl, H⟩ := hrel
    rcases Nat.lt_or_ge k 1 with h1 | h1
    · obtain rfl : k = 0 := by omega
      by_cases hx : x = 0
      · have hn : (x != 0) = false := by simp [hx]
        have H2 : Hid ((1 ≤ 1 → x = 0) ∧ (2 ≤ 1 → y = 0)) := Lib.hid ⟨fun _ => hx, fun h => by omega⟩
        clear hx
        go_wp2
        go_round
        case rel => exact ⟨1, by omega, by first | rfl | go_num, H2⟩
        case measure => simp [intOf]
      · have hn : (x != 0) = true := by simp [hx]
        have e : orI x y = x := by unfold orI; rw [if_neg hx]
        have E := Lib.hid e
        clear hx e
        go_wp2
        go_ret
        exact ⟨ret_int E.out.symm, rfl⟩
    · have hx := H.out.1 h1
      have e : orI x y = y := by unfold orI; rw [if_pos hx]
      have E := Lib.hid e
      rcases Nat.lt_or_ge k 2 with h2 | h2
      · obtain rfl : k = 1 := by omega
        by_cases hy : y = 0
        · have hn : (y != 0) = false := by simp [hy]
          have H2 : Hid ((1 ≤ 2 → x = 0) ∧ (2 ≤ 2 → y = 0)) := Lib.hid ⟨fun _ => hx, fun h => hy⟩
          clear hy hx e
          go_wp2
          go_round
          case rel => exact ⟨2, by omega, by first | rfl | go_num, H2⟩
          case measure => simp [intOf]
        · have hn : (y != 0) = true := by simp [hy]
          clear hy hx e
          go_wp2
          go_ret
          exact ⟨ret_int E.out.symm, rfl⟩
      · obtain rfl : k = 2 := by omega
        have hy := H.out.2 h2
        subst hy
        clear hx e
        go_wp2
        go_ret
        exact ⟨ret_int E.out.symm, rfl⟩

theorem sliceMin (x o c : Nat) (a b : Nat) (w : World) (c0 : w.cell? ⟨x, o, none⟩ = some (.int .i64 (a : Nat))) (c1 : w.cell? ⟨x, o + 1, none⟩ = some (.int .i64 (b : Nat))) :
    Calls Try.prog 22 #[.slice (some ⟨x, o, none⟩) 2 c] w fun e w' => e = .returned (.int .i64 (min a b : Nat)) ∧ w' = w := by
  obtain ⟨m, hm⟩ : ∃ m, m = min a b := ⟨_, rfl⟩
  rw [← hm]
  have HM : Hid (m = min a b) := Lib.hid hm
  clear hm
  go_enter Try.func22, Try.ntmps22
  go_wp2
  go_loop [3, 4] (fun q i => ∃ k n : Nat, q = .int .i64 n ∧ i = .int .i64 k ∧ Hid ((k = 1 ∧ n = a) ∨ (k = 2 ∧ n = m))) (fun _ i => 2 - (intOf i).toNat)
  case atStart => exact ⟨1, a, rfl, rfl, Lib.hid (.inl ⟨rfl, rfl⟩)⟩
  case round =>
    obtain ⟨k, n, rfl, rfl, H⟩ := hrel
    rcases H.out with ⟨rfl, rfl⟩ | ⟨rfl, rfl⟩
    · rcases Nat.lt_or_ge b n with h | h
      · have h2 : (b : Int) < (n : Int) := by omega
        have H2 : Hid ((2 = 1 ∧ b = n) ∨ (2 = 2 ∧ b = m)) := Lib.hid (.inr ⟨rfl, by rw [HM.out]; omega⟩)
        clear H
        go_wp2
        go_round
        case rel => exact ⟨2, b, by first | rfl | (congr 1; omega) | (simp; omega), by first | rfl | go_num, H2⟩
        case measure => simp [intOf]
      · have h2 : ¬ (b : Int) < (n : Int) := by omega
        have H2 : Hid ((2 = 1 ∧ n = n) ∨ (2 = 2 ∧ n = m)) := Lib.hid (.inr ⟨rfl, by rw [HM.out]; omega⟩)
        clear H
        go_wp2
        go_round
        case rel => exact ⟨2, n, by first | rfl | (congr 1; omega) | (simp; omega), by first | rfl | go_num, H2⟩
        case measure => simp [intOf]
    · clear H HM
      go_wp2
      go_ret
      exact ⟨rfl, rfl⟩

/-- The world w after some draws, with some blocks laid behind it. -/
def GrownF (w w' : World) : Prop := ∃ q os, w' = Sort.grow (w.drewN q) os
theorem GrownF.refl (w : World) : GrownF w w := ⟨0, #[], by rw [Sort.grow_empty]; rfl⟩
theorem GrownF.drew {w w' : World} (h : GrownF w w') : GrownF w w'.drew := by
  obtain ⟨q, os, rfl⟩ := h
  exact ⟨q + 1, os, rfl⟩
theorem GrownF.alloc {w w' : World} (h : GrownF w w') (o : Obj) : GrownF w (w'.alloc o) := by
  obtain ⟨q, os, rfl⟩ := h
  exact ⟨q, os ++ #[o], by rw [Sort.alloc_eq_grow, Sort.grow_grow]⟩
theorem GrownF.cell {w w' : World} (h : GrownF w w') {a : Addr} {v : Value} (hc : w.cell? a = some v) : w'.cell? a = some v := by
  obtain ⟨q, os, rfl⟩ := h
  exact cell_grown (World.block_lt_of_cell? w _ hc) hc q os
theorem grown_lit (w : World) (x y : Int) (t : TypeId) : (w.alloc (.cells #[.int .i64 x, .int .i64 y] t)).drew.cell? ⟨w.heap.size, 0, none⟩ = some (.int .i64 x) ∧ (w.alloc (.cells #[.int .i64 x, .int .i64 y] t)).drew.cell? ⟨w.heap.size, 1, none⟩ = some (.int .i64 y) := by
  constructor
  · show (w.alloc (.cells #[.int .i64 x, .int .i64 y] t)).cell? ⟨w.heap.size, 0, none⟩ = _
    unfold World.cell?; rw [heap_alloc_new]; rfl
  · show (w.alloc (.cells #[.int .i64 x, .int .i64 y] t)).cell? ⟨w.heap.size, 1, none⟩ = _
    unfold World.cell?; rw [heap_alloc_new]; rfl
theorem held6_alloc {W w1 : World} {o : Obj} {a1 a2 a3 a4 a5 a6 : Addr} {v1 v2 v3 v4 v5 v6 : Value} (h : (w1.cell? a1 = some v1 ∧ w1.cell? a2 = some v2 ∧ w1.cell? a3 = some v3 ∧ w1.cell? a4 = some v4 ∧ w1.cell? a5 = some v5 ∧ w1.cell? a6 = some v6) ∧ GrownF W w1) :
    ((w1.alloc o).cell? a1 = some v1 ∧ (w1.alloc o).cell? a2 = some v2 ∧ (w1.alloc o).cell? a3 = some v3 ∧ (w1.alloc o).cell? a4 = some v4 ∧ (w1.alloc o).cell? a5 = some v5 ∧ (w1.alloc o).cell? a6 = some v6) ∧ GrownF W (w1.alloc o) :=
  ⟨⟨cell_al h.1.1, cell_al h.1.2.1, cell_al h.1.2.2.1, cell_al h.1.2.2.2.1, cell_al h.1.2.2.2.2.1, cell_al h.1.2.2.2.2.2⟩, h.2.alloc o⟩

/-- What the comparison of two comparators' numbers answers. -/
def cfN (lev : List Int) (ps : List (Nat × Nat)) (a b : Nat) : Int := orI (cmpI (lev.getD a 0) (lev.getD b 0)) (cmpI (min (ps.getD a (0, 0)).1 (ps.getD a (0, 0)).2 : Nat) (min (ps.getD b (0, 0)).1 (ps.getD b (0, 0)).2 : Nat))

set_option maxHeartbeats 8000000 in
set_option maxRecDepth 100000 in
theorem byCmp (W : World) (b4 b1 : Nat) (al ap : Option Addr) (cl cp : Nat) (lev : List Int) (ps : List (Nat × Nat)) (a b : Nat) (h60 : ps.length ≤ 60) (ha : a < ps.length) (hb : b < ps.length) (hl : lev.length = ps.length)
    (c4 : W.cell? ⟨b4, 0, none⟩ = some (.slice al ps.length cl)) (IL : Ints W (.slice al ps.length cl) lev) (c1 : W.cell? ⟨b1, 1, none⟩ = some (.slice ap ps.length cp)) (IP : IntSS W (.slice ap ps.length cp) (rowsOf ps)) :
    Calls Try.prog 19 #[.int .i64 a, .int .i64 b, .pointer (some ⟨b4, 0, none⟩), .pointer (some ⟨b1, 0, none⟩)] W fun e w' => e = .returned (.int .i64 (cfN lev ps a b)) ∧ GrownF W w' := by
  obtain ⟨al', cl', hv, hc1, hc2, -, hLc⟩ := IL
  simp only [Value.slice.injEq] at hv
  obtain ⟨rfl, -, rfl⟩ := hv
  obtain ⟨ap', cp', hv, hp1, hp2, -, hPc⟩ := pairs_open IP
  simp only [Value.slice.injEq] at hv
  obtain ⟨rfl, -, rfl⟩ := hv
  obtain ⟨bl, ol, u1, rfl, la, ⟨rfl, -⟩⟩ := hLc a (by omega)
  obtain ⟨bl', ol', u2, hal, lb, ⟨rfl, -⟩⟩ := hLc b (by omega)
  simp only [Option.some.injEq, Addr.mk.injEq] at hal
  obtain ⟨rfl, rfl, -⟩ := hal
  obtain ⟨bp, op, xa, oa, ca, rfl, pa, q1, q2, da0, da1⟩ := hPc a ha
  obtain ⟨bp', op', xb, ob, cb, hap, pb, q3, q4, db0, db1⟩ := hPc b hb
  simp only [Option.some.injEq, Addr.mk.injEq] at hap
  obtain ⟨rfl, rfl, -⟩ := hap
  have hcf : cfN lev ps a b = orI (cmpI lev[a] lev[b]) (cmpI (min ps[a].1 ps[a].2 : Nat) (min ps[b].1 ps[b].2 : Nat)) := by
    unfold cfN
    simp only [List.getD_eq_getElem?_getD, List.getElem?_eq_getElem ha, List.getElem?_eq_getElem hb, List.getElem?_eq_getElem (by omega : a < lev.length), List.getElem?_eq_getElem (by omega : b < lev.length), Option.getD_some]
  rw [hcf]
  have HA : Hid (∀ w', GrownF W w' → w'.cell? ⟨xa, oa, none⟩ = some (.int .i64 (ps[a].1 : Nat)) ∧ w'.cell? ⟨xa, oa + 1, none⟩ = some (.int .i64 (ps[a].2 : Nat))) := Lib.hid fun w' h => ⟨h.cell da0, h.cell da1⟩
  have HB : Hid (∀ w', GrownF W w' → w'.cell? ⟨xb, ob, none⟩ = some (.int .i64 (ps[b].1 : Nat)) ∧ w'.cell? ⟨xb, ob + 1, none⟩ = some (.int .i64 (ps[b].2 : Nat))) := Lib.hid fun w' h => ⟨h.cell db0, h.cell db1⟩
  clear hLc hPc hcf da0 da1 db0 db1
  generalize lev[a] = y1 at *
  generalize lev[b] = y2 at *
  generalize ps[a].1 = a1 at *
  generalize ps[a].2 = a2 at *
  generalize ps[b].1 = b1' at *
  generalize ps[b].2 = b2' at *
  unfold maxLen at hc2 hp2
  go_enter Try.func19, Try.ntmps19
  go_wp2
  go_region_held3 (fun w' => (w'.cell? ⟨b4, 0, none⟩ = some (.slice (some ⟨bl, ol, none⟩) ps.length cl) ∧ w'.cell? ⟨b1, 1, none⟩ = some (.slice (some ⟨bp, op, none⟩) ps.length cp) ∧ w'.cell? ⟨bl, ol + a, none⟩ = some (.int .i64 y1) ∧ w'.cell? ⟨bl, ol + b, none⟩ = some (.int .i64 y2) ∧ w'.cell? ⟨bp, op + a, none⟩ = some (.slice (some ⟨xa, oa, none⟩) 2 ca) ∧ w'.cell? ⟨bp, op + b, none⟩ = some (.slice (some ⟨xb, ob, none⟩) 2 cb)) ∧ GrownF W w')
    (first | exact ⟨⟨c4, c1, la, lb, pa, pb⟩, (GrownF.refl _).drew⟩ | exact held6_alloc (by assumption) | assumption)
    (first | (go_at_call 21; refine (cmpCompare _ _ _).mono ?_; rintro e _ ⟨rfl, rfl⟩) | (go_at_call 22; first | (with_reducible refine (sliceMin xa oa ca a1 a2 _ (HA.out _ (And.right (by assumption))).1 (HA.out _ (And.right (by assumption))).2).mono ?_; rintro e _ ⟨rfl, rfl⟩) | (with_reducible refine (sliceMin xb ob cb b1' b2' _ (HB.out _ (And.right (by assumption))).1 (HB.out _ (And.right (by assumption))).2).mono ?_; rintro e _ ⟨rfl, rfl⟩)) | (go_at_call 20; refine (cmpOr _ _ _ _ (grown_lit _ _ _ _).1 (grown_lit _ _ _ _).2).mono ?_; rintro e _ ⟨rfl, rfl⟩))
  all_goals
    go_wp2
    go_ret
    exact ⟨rfl, ((GrownF.refl _).alloc _).drew⟩
end Go.Proofs.Ythcnmaapcniehaa
