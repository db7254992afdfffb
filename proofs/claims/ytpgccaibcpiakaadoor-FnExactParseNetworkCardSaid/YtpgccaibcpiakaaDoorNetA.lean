/- Contracts of the laws' helpers on slices of slices and on networks: szIntS, szIntSS, szNetwork, toIntSS, toNetwork, eqIntSS, eqNetwork. -/
import Derived.Test.YtpgccaibcpiakaaDoorSlice
import Derived.Test.YtpgccaibcpiakaaDoorGrid
namespace Go.Proofs.YtpgccaibcpiakaaDoor
open Go.RowKit
set_option linter.unusedVariables false

/-- A fresh slice of fresh rows comes back; nothing that was there has turned. -/
def GivesSS (w : World) (rows : List (List Int)) (en : Ending) (w' : World) : Prop := ∃ v, en = .returned v ∧ OwnSS tInt tInts w' w.heap.size w'.heap.size v rows ∧ Below w.heap.size w w'
/-- A network comes back, its rows fresh; nothing that was there has turned. -/
def GivesNet (w : World) (n : Int) (rows : List (List Int)) (en : Ending) (w' : World) : Prop :=
  ∃ v, en = .returned (.agg #[.int .i64 n, v]) ∧ OwnSS tInt tInts w' w.heap.size w'.heap.size v rows ∧ Below w.heap.size w w'

def szI (n : Nat) (left : Int) : Int := if (n : Int) ≤ left then left - n else -1
def szSS (rows : List (List Int)) (left : Int) : Int := szI (rows.length + sumLen rows) left

set_option maxHeartbeats 800000 in
theorem eqIntSS (v1 v2 : Value) (xs ys : List (List Int)) (w : World) (h1 : IntSS w v1 xs) (h2 : IntSS w v2 ys) :
    Calls Tryd.prog 23 #[v1, v2] w fun e w' => e = .returned (.bool (tf (xs = ys))) ∧ ∃ n, w' = w.drewN n := by
  obtain ⟨ao, cap, rfl, hcap, hmax, hnil, hcell⟩ := h1
  obtain ⟨ao2, cap2, rfl, hcap2, hmax2, hnil2, hcell2⟩ := h2
  have HC := Lib.hid hcell; clear hcell
  have HC2 := Lib.hid hcell2; clear hcell2
  unfold maxLen at hmax hmax2
  by_cases hl : xs.length = ys.length
  · have HL := Lib.hid hl
    have hne : ((xs.length : Int) != (ys.length : Int)) = false := by simp [hl]
    clear hl
    go_enter Tryd.func23, Tryd.ntmps23
    go_wp2
    go_loopw [5] (fun i wr => ∃ k : Nat, k ≤ xs.length ∧ i = .int .i64 k ∧ Hid (xs.take k = ys.take k) ∧ ∃ n, Hid (wr = w.drewN n)) (fun i _ => xs.length - (intOf i).toNat)
    case atStart => exact ⟨0, Nat.zero_le _, rfl, rfl, 0, rfl⟩
    case round =>
      obtain ⟨k, hk, rfl, HT, n, HW⟩ := hrel
      by_cases hlt : k < xs.length
      · have hlt2 : k < ys.length := by have := HL.out; omega
        obtain ⟨b, o, u, rfl, hu, hI⟩ := HC.out k hlt
        obtain ⟨b2, o2, u2, rfl, hu2, hI2⟩ := HC2.out k hlt2
        have c1 : wr.cell? ⟨b, o + k, none⟩ = some u := by rw [HW.out]; exact hu
        have c2 : wr.cell? ⟨b2, o2 + k, none⟩ = some u2 := by rw [HW.out]; exact hu2
        have J1 : Hid (∀ m, Ints (wr.drewN m) u xs[k]) := fun m => hI.keep fun a q ha => by rw [HW.out]; exact ha
        have J2 : Hid (∀ m, Ints (wr.drewN m) u2 ys[k]) := fun m => hI2.keep fun a q ha => by rw [HW.out]; exact ha
        clear hu hu2 hI hI2
        by_cases he : xs[k] = ys[k]
        · have hb : tf (xs[k] = ys[k]) = true := tf_yes he
          have C : Hid (∀ m, Calls Tryd.prog 34 #[u, u2] (wr.drewN m) fun e w' => e = .returned (.bool true) ∧ ∃ n, w' = (wr.drewN m).drewN n) := fun m => by
            have := eqIntS_q u u2 xs[k] ys[k] _ (J1.out m) (J2.out m); rwa [hb] at this
          have R : Hid (xs.take (k + 1) = ys.take (k + 1)) := by
            show _ = _
            rw [List.take_succ_eq_append_getElem hlt, List.take_succ_eq_append_getElem hlt2, he, HT.out]
          clear he hb
          go_wp2
          go_quiet ((go_at_call 34; exact Calls.quiet_of (C.out _)))
          go_wp2
          go_roundw
          case rel => exact ⟨k + 1, by omega, by go_num, R, _, by rw [HW.out]; exact World.drewN_drewN _ _ _⟩
          case measure => simp [intOf]; omega
        · have hb : tf (xs[k] = ys[k]) = false := tf_no he
          have C : Hid (∀ m, Calls Tryd.prog 34 #[u, u2] (wr.drewN m) fun e w' => e = .returned (.bool false) ∧ ∃ n, w' = (wr.drewN m).drewN n) := fun m => by
            have := eqIntS_q u u2 xs[k] ys[k] _ (J1.out m) (J2.out m); rwa [hb] at this
          have R := Lib.hid (tf_no (p := xs = ys) (take_no hlt hlt2 he))
          clear he hb
          go_wp2
          go_quiet ((go_at_call 34; exact Calls.quiet_of (C.out _)))
          go_wp2
          go_ret
          exact ⟨ret_bool (by rw [R.out]), _, by rw [HW.out]; exact World.drewN_drewN _ _ _⟩
      · have R := Lib.hid (tf_yes (p := xs = ys) (by have := HT.out; rw [List.take_of_length_le (by omega), List.take_of_length_le (by have := HL.out; omega)] at this; exact this))
        go_wp2
        go_ret
        exact ⟨ret_bool (by rw [R.out]), _, HW.out⟩
  · have hne : ((xs.length : Int) != (ys.length : Int)) = true := by simp; omega
    have R := Lib.hid (tf_no (p := xs = ys) fun e => hl (by rw [e]))
    clear hl
    go_enter Tryd.func23, Tryd.ntmps23
    go_wp2
    go_ret
    exact ⟨ret_bool (by rw [R.out]), 0, rfl⟩

theorem eqNetwork (n1 n2 : Int) (v1 v2 : Value) (xs ys : List (List Int)) (w : World) (h1 : IntSS w v1 xs) (h2 : IntSS w v2 ys) :
    Calls Tryd.prog 9 #[.agg #[.int .i64 n1, v1], .agg #[.int .i64 n2, v2]] w (GivesB w (tf (n1 = n2 ∧ xs = ys))) := by
  have k1 : Hid (∀ w', Below w.heap.size w w' → IntSS w' v1 xs) := fun w' hb => h1.keep (Below.keeps hb)
  have k2 : Hid (∀ w', Below w.heap.size w w' → IntSS w' v2 ys) := fun w' hb => h2.keep (Below.keeps hb)
  obtain ⟨a1, c1, hv1, _⟩ := h1
  obtain ⟨a2, c2, hv2, _⟩ := h2
  subst hv1 hv2
  by_cases he : n1 = n2
  · have R := Lib.hid (tf_congr (p := n1 = n2 ∧ xs = ys) (q := xs = ys) ⟨fun h => h.2, fun h => ⟨he, h⟩⟩)
    have hb : (n1 != n2) = false := by simp [he]
    clear he
    have C : Hid (∀ W, Below w.heap.size w W → Calls Tryd.prog 23 #[.slice a1 xs.length c1, .slice a2 ys.length c2] W fun e w' => e = .returned (.bool (tf (xs = ys))) ∧ ∃ n, w' = W.drewN n) := fun W hW => eqIntSS _ _ xs ys W (k1.out W hW) (k2.out W hW)
    cases ht : tf (xs = ys)
    all_goals
      rw [ht] at C R
      clear ht
      go_enter Tryd.func9, Tryd.ntmps9
      go_wp2_with fail
      refine (C.out _ (((Below.refl _ _).alloc (Nat.le_refl _) _).alloc (by simp) _)).mono ?_
      rintro e w3 ⟨rfl, m, rfl⟩
      go_wp2
      go_ret
      exact ⟨ret_bool R.out.symm, below_drewN (((Below.refl _ _).alloc (Nat.le_refl _) _).alloc (by simp) _) _⟩
  · have R := Lib.hid (tf_no (p := n1 = n2 ∧ xs = ys) fun h => he h.1)
    have hb : (n1 != n2) = true := by simp [he]
    clear he
    go_enter Tryd.func9, Tryd.ntmps9
    go_wp2
    go_ret
    exact ⟨ret_bool R.out.symm, ((Below.refl _ _).alloc (Nat.le_refl _) _).alloc (by simp) _⟩

theorem eqNetwork_yes (n : Int) (v1 v2 : Value) (xs : List (List Int)) (w : World) (h1 : IntSS w v1 xs) (h2 : IntSS w v2 xs) :
    Calls Tryd.prog 9 #[.agg #[.int .i64 n, v1], .agg #[.int .i64 n, v2]] w (GivesB w true) := by
  have := eqNetwork n n v1 v2 xs xs w h1 h2
  rwa [tf_yes ⟨rfl, rfl⟩] at this
end Go.Proofs.YtpgccaibcpiakaaDoor
