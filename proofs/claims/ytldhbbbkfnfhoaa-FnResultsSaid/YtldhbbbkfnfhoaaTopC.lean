/- Contracts: the laws' own small functions: same, rises, stairs, sorted. -/
import Derived.Test.YtldhbbbkfnfhoaaRises
import Derived.Test.YtldhbbbkfnfhoaaAllMasks
import Derived.Test.YtldhbbbkfnfhoaaMkO
import Derived.BigGuard
namespace Go.Proofs.Ytldhbbbkfnfhoaa
open Go.RowKit
set_option linter.unusedVariables false

def SameTo (xs ys : List Int) (k : Nat) : Prop := ∀ i, i < k → xs.getD i 0 = ys.getD i 0
theorem same_all {xs ys : List Int} (hl : xs.length = ys.length) (h : SameTo xs ys xs.length) : xs = ys := by
  apply List.ext_getElem hl
  intro i h1 h2
  have := h i h1
  rw [List.getD_eq_getElem?_getD, List.getD_eq_getElem?_getD, List.getElem?_eq_getElem h1, List.getElem?_eq_getElem h2] at this
  exact this
set_option maxHeartbeats 800000 in
theorem sameC (w : World) (v u : Value) (xs ys : List Int) (hI : Ints w v xs) (hJ : Ints w u ys) :
    Calls Try.prog 10 #[v, u] w (GivesB w (tf (xs = ys))) := by
  obtain ⟨ao, cap, rfl, hcap, hmax, hnil, hcell⟩ := hI
  obtain ⟨bo, cbp, rfl, hcbp, hmbx, hnbl, hcell2⟩ := hJ
  have HC := Lib.hid hcell
  have HC2 := Lib.hid hcell2
  unfold maxLen at hmax hmbx
  clear hcell hcell2 hnil hnbl
  by_cases hl : xs.length = ys.length
  · go_enter Try.func10, Try.ntmps10
    go_wp2
    go_loopw [14] (fun i wr => ∃ k : Nat, k ≤ xs.length ∧ i = .int .i64 k ∧ Hid (SameTo xs ys k) ∧ Below w.heap.size w wr) (fun i _ => xs.length - (intOf i).toNat)
    case atStart => exact ⟨0, Nat.zero_le _, rfl, fun i hi => by omega, Below.refl _ _⟩
    case round =>
      obtain ⟨k, hk9, rfl, HS, hb⟩ := hrel
      by_cases hlt : k < xs.length
      · have hlt2 : k < ys.length := by omega
        obtain ⟨b, o, u1, rfl, hu1, rfl, _⟩ := HC.out k hlt
        obtain ⟨b', o', u2, rfl, hu2, rfl, _⟩ := HC2.out k hlt2
        have c1 := Below.keeps hb _ _ hu1
        have c2 := Below.keeps hb _ _ hu2
        have g1 : xs.getD k 0 = xs[k] := by rw [List.getD_eq_getElem?_getD, List.getElem?_eq_getElem hlt]; rfl
        have g2 : ys.getD k 0 = ys[k] := by rw [List.getD_eq_getElem?_getD, List.getElem?_eq_getElem hlt2]; rfl
        have HG1 := Lib.hid g1
        have HG2 := Lib.hid g2
        generalize xs[k] = x1 at *
        generalize ys[k] = x2 at *
        clear hu1 hu2 g1 g2
        by_cases hx : x1 = x2
        · have hd : (x1 != x2) = false := by rw [hx]; simp
          have HS2 : Hid (SameTo xs ys (k + 1)) := by
            intro i hi
            rcases Nat.lt_or_ge i k with h | h
            · exact HS.out i h
            · obtain rfl : i = k := by omega
              rw [HG1.out, HG2.out, hx]
          clear hx
          go_wp2
          go_roundw
          case rel => exact ⟨k + 1, by omega, by go_num, HS2, hb⟩
          case measure => simp [intOf]; omega
        · have hd : (x1 != x2) = true := by simpa using hx
          have HT : Hid (tf (xs = ys) = false) := tf_no (p := xs = ys) (fun e => hx (by rw [← HG1.out, ← HG2.out, e]))
          clear hx
          go_wp2
          go_ret
          exact ⟨ret_bool HT.out.symm, hb⟩
      · obtain rfl : k = xs.length := by omega
        have HT : Hid (tf (xs = ys) = true) := tf_yes (p := xs = ys) (same_all hl HS.out)
        go_wp2
        go_ret
        exact ⟨ret_bool HT.out.symm, hb⟩
  · have HT : Hid (tf (xs = ys) = false) := tf_no (p := xs = ys) (fun e => hl (by rw [e]))
    have hd : ((xs.length : Int) != (ys.length : Int)) = true := by rw [bne_iff_ne]; omega
    go_enter Try.func10, Try.ntmps10
    go_wp2
    go_ret
    exact ⟨ret_bool HT.out.symm, Below.refl _ _⟩
end Go.Proofs.Ytldhbbbkfnfhoaa
