/- Contracts: the laws' own small functions: same, rises, stairs, sorted. -/
import Derived.Test.YtjinaiggpngieaaRises
import Derived.Test.YtjinaiggpngieaaAllMasks
import Derived.Test.YtjinaiggpngieaaMkO
import Derived.BigGuard
namespace Go.Proofs.Ytjinaiggpngieaa
open Go.RowKit
set_option linter.unusedVariables false

set_option maxHeartbeats 800000 in
theorem risesC (v : Value) (xs : List Int) (w : World) (h : Ints w v xs) :
    Calls Try.prog 19 #[v] w (GivesB w (tf (RisesP xs))) := by
  obtain ⟨ao, cap, rfl, hcap, hmax, hnil, hcell⟩ := h
  have HC := Lib.hid hcell; clear hcell
  unfold maxLen at hmax
  go_enter Try.func19, Try.ntmps19
  go_wp2
  go_loopw [3] (fun i wr => ∃ k : Nat, 1 ≤ k ∧ (k ≤ xs.length ∨ k = 1) ∧ i = .int .i64 k ∧ Hid (∀ i, i + 1 < k → xs.getD i 0 ≤ xs.getD (i + 1) 0) ∧ Below w.heap.size w wr) (fun i _ => xs.length - (intOf i).toNat)
  case atStart => exact ⟨1, Nat.le_refl _, .inr rfl, rfl, Lib.hid (fun i hi => by omega), Below.refl _ _⟩
  case round =>
    obtain ⟨k, hk1, hk, rfl, HR, hb⟩ := hrel
    by_cases hlt : k < xs.length
    · obtain ⟨k, rfl⟩ : ∃ m, k = m + 1 := ⟨k - 1, by omega⟩
      obtain ⟨b, o, u1, rfl, hu1, rfl, _⟩ := HC.out (k + 1) hlt
      obtain ⟨b', o', u2, hao, hu2, rfl, _⟩ := HC.out k (by omega)
      simp only [Option.some.injEq, Addr.mk.injEq] at hao
      obtain ⟨rfl, rfl, -⟩ := hao
      have c1 := Below.keeps hb _ _ hu1
      have c2 := Below.keeps hb _ _ hu2
      have g1 : xs.getD (k + 1) 0 = xs[k + 1] := by rw [List.getD_eq_getElem?_getD, List.getElem?_eq_getElem hlt]; rfl
      have g2 : xs.getD k 0 = xs[k]'(by omega) := by rw [List.getD_eq_getElem?_getD, List.getElem?_eq_getElem (by omega)]; rfl
      rw [← g1] at c1
      rw [← g2] at c2
      obtain ⟨y1, Y1⟩ : ∃ y, Hid (xs.getD (k + 1) 0 = y) := ⟨_, Lib.hid rfl⟩
      obtain ⟨y2, Y2⟩ : ∃ y, Hid (xs.getD k 0 = y) := ⟨_, Lib.hid rfl⟩
      rw [Y1.out] at c1
      rw [Y2.out] at c2
      clear hu1 hu2 g1 g2
      by_cases hy : y1 < y2
      · have HT : Hid (tf (RisesP xs) = false) := tf_no fun hh => by have := hh k hlt; rw [Y1.out, Y2.out] at this; omega
        have hd : decide (y1 < y2) = true := by simpa using hy
        go_wp2
        go_quiet (fail)
        go_wp2
        go_ret
        exact ⟨ret_bool HT.out.symm, below_drewN hb _⟩
      · have HR2 : Hid (∀ i, i + 1 < k + 1 + 1 → xs.getD i 0 ≤ xs.getD (i + 1) 0) := by
          intro i hi
          rcases Nat.lt_or_ge (i + 1) (k + 1) with hh | hh
          · exact HR.out i hh
          · obtain rfl : i = k := by omega
            rw [Y1.out, Y2.out]; omega
        have hd : decide (y1 < y2) = false := by simpa using hy
        go_wp2
        go_quiet (fail)
        go_wp2
        go_roundw
        case rel => exact ⟨k + 1 + 1, by omega, .inl (by omega), by go_num, HR2, below_drewN hb _⟩
        case measure => simp [intOf]; omega
    · have HT : Hid (tf (RisesP xs) = true) := tf_yes fun i hi => HR.out i (by omega)
      go_wp2
      go_ret
      exact ⟨ret_bool HT.out.symm, hb⟩
set_option maxHeartbeats 800000 in
theorem stairsC (M : Nat) (w : World) (hM : M ≤ 64) :
    Calls Try.prog 20 #[.int .i64 M] w (GivesI w (upto M)) := by
  go_enter Try.func20, Try.ntmps20
  go_wp2
  go_loopw [3, 4] (fun v i wr => ∃ k : Nat, k ≤ M ∧ i = .int .i64 k ∧ OwnI tInt wr w.heap.size wr.heap.size v (upto k) ∧ Below w.heap.size w wr) (fun _ i _ => M - (intOf i).toNat)
  case atStart => exact ⟨0, Nat.zero_le _, rfl, OwnI.lit0 3 w w.heap.size (Nat.le_refl _), (Below.refl _ _).alloc (Nat.le_refl _) _⟩
  case round =>
    obtain ⟨k, hk, rfl, hown, hb⟩ := hrel
    have hs := hb.size
    by_cases hlt : k < M
    · go_wp2_with (at_builtin; refine wpList_append1 _ rfl _ _ 27 rfl 3 (.int .i64 0) 8 Try.underlying27 infoInt (by decide) rfl w.heap.size wr.heap.size _ _ rfl (hown.1.alloc _) ⟨wr.heap.size, 0, none⟩ 1 (.int .i64 k) rfl (cell_alloc0 _ _ _) rfl ?_ ?_ ?_)
      · simp [upto_length]; omega
      · simp; omega
      · intro v' w1 hown' hg
        have R1 := OwnI.snoc hown' hown.2 (show In64 (k : Int) from WalkArith.wf_i64 (by omega))
        rw [← upto_succ] at R1
        have R2 := below_app (hb.alloc hs _) (hown.1.alloc _) hg (Nat.le_refl _) (by simp; omega)
        clear hown hown' hg hb
        go_wp2
        go_roundw
        case rel => exact ⟨k + 1, by omega, by go_num, R1, R2⟩
        case measure => simp [intOf]; omega
    · obtain rfl : k = M := by omega
      go_wp2
      go_ret
      exact ⟨_, rfl, hown, hb⟩
set_option maxHeartbeats 800000 in
theorem sortedC (w : World) (v : Value) (xs : List Int) (hI : Ints w v xs) (hl : xs.length ≤ 1048576) :
    Calls Try.prog 8 #[v] w (GivesI w (srtL xs)) := by
  have HC := Lib.hid (makeSorted w v xs hI hl)
  obtain ⟨ao, cap, rfl, _⟩ := hI
  go_enter Try.func8, Try.ntmps8
  go_wp2_with fail
  refine HC.out.mono ?_; rintro e w1 ⟨u, rfl, R, b⟩
  go_wp2
  go_ret
  exact ⟨u, rfl, R, b⟩
def SameTo (xs ys : List Int) (k : Nat) : Prop := ∀ i, i < k → xs.getD i 0 = ys.getD i 0
theorem same_all {xs ys : List Int} (hl : xs.length = ys.length) (h : SameTo xs ys xs.length) : xs = ys := by
  apply List.ext_getElem hl
  intro i h1 h2
  have := h i h1
  rw [List.getD_eq_getElem?_getD, List.getD_eq_getElem?_getD, List.getElem?_eq_getElem h1, List.getElem?_eq_getElem h2] at this
  exact this
set_option maxHeartbeats 800000 in
theorem sameC (w : World) (v u : Value) (xs ys : List Int) (hI : Ints w v xs) (hJ : Ints w u ys) :
    Calls Try.prog 7 #[v, u] w (GivesB w (tf (xs = ys))) := by
  obtain ⟨ao, cap, rfl, hcap, hmax, hnil, hcell⟩ := hI
  obtain ⟨bo, cbp, rfl, hcbp, hmbx, hnbl, hcell2⟩ := hJ
  have HC := Lib.hid hcell
  have HC2 := Lib.hid hcell2
  unfold maxLen at hmax hmbx
  clear hcell hcell2 hnil hnbl
  by_cases hl : xs.length = ys.length
  · go_enter Try.func7, Try.ntmps7
    go_wp2
    go_loopw [14] (fun i wr => ∃ k : Nat, k ≤ xs.length ∧ i = .int .i64 k ∧ Hid (SameTo xs ys k) ∧ Below w.heap.size w wr) (fun i _ => xs.length - (intOf i).toNat)
    case atStart => exact ⟨0, Nat.zero_le _, rfl, fun i hi => by omega, Below.refl _ _⟩
    case round =>
      obtain ⟨k, hk9, rfl, HS, hb⟩ := hrel
      by_cases hlt : k < xs.length
      · have hlt2 : k < ys.length := by omega
        obtain ⟨b, o, u1, rfl, hu1, rfl, _⟩ := HC.out k hlt
        obtain ⟨b', o', u2, rfl, hu2, rfl, _⟩ := HC2.out k hlt2
        have c1 := Below.keeps hb _ _ hu1
        have c2 := Below.keeps hb _ _ hu2
        have g1 : xs.getD k 0 = xs[k] := by rw [List.getD_eq_getElem?_getD, List.getElem?_eq_getElem hlt]; rfl
        have g2 : ys.getD k 0 = ys[k] := by rw [List.getD_eq_getElem?_getD, List.getElem?_eq_getElem hlt2]; rfl
        have HG1 := Lib.hid g1
        have HG2 := Lib.hid g2
        generalize xs[k] = x1 at *
        generalize ys[k] = x2 at *
        clear hu1 hu2 g1 g2
        by_cases hx : x1 = x2
        · have hd : (x1 != x2) = false := by rw [hx]; simp
          have HS2 : Hid (SameTo xs ys (k + 1)) := by
            intro i hi
            rcases Nat.lt_or_ge i k with h | h
            · exact HS.out i h
            · obtain rfl : i = k := by omega
              rw [HG1.out, HG2.out, hx]
          clear hx
          go_wp2
          go_roundw
          case rel => exact ⟨k + 1, by omega, by go_num, HS2, hb⟩
          case measure => simp [intOf]; omega
        · have hd : (x1 != x2) = true := by simpa using hx
          have HT : Hid (tf (xs = ys) = false) := tf_no (p := xs = ys) (fun e => hx (by rw [← HG1.out, ← HG2.out, e]))
          clear hx
          go_wp2
          go_ret
          exact ⟨ret_bool HT.out.symm, hb⟩
      · obtain rfl : k = xs.length := by omega
        have HT : Hid (tf (xs = ys) = true) := tf_yes (p := xs = ys) (same_all hl HS.out)
        go_wp2
        go_ret
        exact ⟨ret_bool HT.out.symm, hb⟩
  · have HT : Hid (tf (xs = ys) = false) := tf_no (p := xs = ys) (fun e => hl (by rw [e]))
    have hd : ((xs.length : Int) != (ys.length : Int)) = true := by rw [bne_iff_ne]; omega
    go_enter Try.func7, Try.ntmps7
    go_wp2
    go_ret
    exact ⟨ret_bool HT.out.symm, Below.refl _ _⟩
end Go.Proofs.Ytjinaiggpngieaa
