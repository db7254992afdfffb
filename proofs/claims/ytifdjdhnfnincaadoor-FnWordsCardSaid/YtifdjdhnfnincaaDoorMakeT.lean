/- Contracts: MakeNum, MakeText; the plain law that the pieces between blanks, joined, give the text again. -/
import Derived.Test.YtifdjdhnfnincaaDoorPrng
import Derived.Test.YtifdjdhnfnincaaDoorJoinS
import Derived.Test.YtifdjdhnfnincaaDoorSplit
namespace Go.Proofs.YtifdjdhnfnincaaDoor
open Go.RowKit
set_option linter.unusedVariables false

theorem join_last (P : List (List UInt8)) (q : List UInt8) (c : UInt8) : Lib.join (P ++ [q ++ [c]]) [32] = Lib.join (P ++ [q]) [32] ++ [c] := by
  cases P with
  | nil => simp [Lib.join_one]
  | cons p P => rw [join_snoc _ _ _ (by simp), join_snoc _ _ _ (by simp)]; simp
theorem spl_join (s : ByteArray) : ∀ i, i ≤ s.size → Lib.join (datas (spl s ⟨#[32]⟩ i).1 ++ [(s.data.toList.take i).drop (spl s ⟨#[32]⟩ i).2]) [32] = s.data.toList.take i := by
  intro i
  induction i with
  | zero => intro _; simp [spl, datas, Lib.join_one]
  | succ i ih =>
    intro hi
    have hlt : i < s.data.toList.length := by show i < s.size; omega
    have hle := (spl_le s ⟨#[32]⟩ i).1
    have hg : s.data.toList.getD i 0 = s.data.toList[i] := by rw [List.getD_eq_getElem?_getD, List.getElem?_eq_getElem hlt]; rfl
    have hlen : (s.data.toList.take i).length = i := by rw [List.length_take]; omega
    rw [List.take_succ_eq_append_getElem hlt]
    by_cases hc : s.data.toList[i] = 32
    · rw [spl_yes (by unfold hitB; rw [hg, hc]; rfl)]
      have e2 : (List.take i s.data.toList ++ [s.data.toList[i]]).drop (i + 1) = [] := List.drop_of_length_le (by rw [List.length_append, hlen]; simp)
      rw [e2, datas_snoc, join_snoc _ _ _ (by simp)]
      have e3 : (s.extract (spl s ⟨#[32]⟩ i).2 i).data.toList = (s.data.toList.take i).drop (spl s ⟨#[32]⟩ i).2 := by simp [List.drop_take]
      rw [e3, ih (by omega), hc]; simp
    · rw [spl_no (by unfold hitB; rw [hg]; simpa using hc)]
      rw [List.drop_append_of_le_length (by omega), join_last, ih (by omega)]
theorem join_split (s : ByteArray) : joinT (splL s ⟨#[32]⟩) ⟨#[32]⟩ = s := by
  apply bytes_eq2
  have h := spl_join s s.size (Nat.le_refl _)
  have e : s.data.toList.take s.size = s.data.toList := List.take_of_length_le (Nat.le_refl _)
  rw [e] at h
  show Lib.join (datas (splL s ⟨#[32]⟩)) [32] = s.data.toList
  unfold splL
  rw [datas_snoc]
  have e5 : (s.extract (spl s ⟨#[32]⟩ s.size).2 s.size).data.toList = s.data.toList.drop (spl s ⟨#[32]⟩ s.size).2 := by
    have := List.take_of_length_le (l := List.drop (spl s ⟨#[32]⟩ s.size).2 s.data.toList) (i := s.size - (spl s ⟨#[32]⟩ s.size).2) (by rw [List.length_drop]; exact Nat.le_refl _)
    simp
    exact this
  rw [e5]; exact h

set_option maxHeartbeats 800000 in
set_option maxRecDepth 100000 in
theorem makeNum (w : World) (bv : Value) (xs : List Int) (m : Nat) (hB : Bytes w bv xs) (hl : xs.length ≤ 1048576) (hm : m ≤ 1000) :
    Calls Tryd.prog 4 #[bv, .int .i64 m] w fun e w' => ∃ x : Nat, x ≤ 65535 ∧ e = .returned (.int .i64 (x : Int)) ∧ Below w.heap.size w w' := by
  have HN := Lib.hid (l31New w bv xs m hB hl hm)
  have HB := Lib.hid hB
  obtain ⟨ao, cap, hv, _⟩ := hB
  subst hv
  go_enter Tryd.func4, Tryd.ntmps4
  go_wp2_with fail
  refine HN.out.mono ?_; rintro e w1 ⟨g, rfl, C1⟩
  have HC1 := Lib.hid C1
  clear C1
  go_wp2_with fail
  refine (l01Byte w _ g _ xs HB.out HC1.out).mono ?_; rintro e w2 ⟨x, hx, rfl, C2, _⟩
  have HC2 := Lib.hid C2
  clear C2
  go_wp2_with fail
  refine (l01Byte w _ g _ xs HB.out HC2.out).mono ?_; rintro e w3 ⟨y, hy, rfl, C3, _⟩
  have HC3 := Lib.hid C3
  clear C3
  go_wp2
  go_ret
  exact ⟨x * 256 + y, by omega, ret_int (by omega), HC3.out.below⟩
def lits5 : List ByteArray := [⟨#[97]⟩, ⟨#[98, 99]⟩, ⟨#[32]⟩, ⟨#[44]⟩, ⟨#[120, 49]⟩]
set_option maxHeartbeats 1600000 in
set_option maxRecDepth 100000 in
theorem makeText (w : World) (bv : Value) (xs : List Int) (hB : Bytes w bv xs) (hl : xs.length ≤ 1048576) :
    Calls Tryd.prog 7 #[bv] w fun e w' => ∃ s : ByteArray, s.size ≤ 14 ∧ e = .returned (.string s) ∧ Below w.heap.size w w' := by
  have HN := Lib.hid (l01New w bv xs hB hl)
  have HB := Lib.hid hB
  obtain ⟨ao, cap, hv, _⟩ := hB
  subst hv
  go_enter Tryd.func7, Tryd.ntmps7
  go_wp2_with fail
  refine HN.out.mono ?_; rintro e w1 ⟨g, rfl, C1⟩
  have HC1 := Lib.hid C1
  clear C1
  go_wp2_with fail
  refine (l01Below w _ g _ xs 8 HB.out HC1.out (by omega) (by omega)).mono ?_; rintro e w2 ⟨k0, hk0, rfl, C2, _⟩
  have HC2 := Lib.hid C2
  clear C2
  go_wp2
  go_loopw [4, 5] (fun s c wr => ∃ (k : Nat) (t : ByteArray), k ≤ 7 ∧ c = .int .i64 k ∧ s = .string t ∧ t.size + 2 * k ≤ 14 ∧ Hid (Cur w wr g (.slice ao xs.length cap) xs.length)) (fun _ c _ => (intOf c).toNat)
  case atStart => exact ⟨k0, _, by omega, rfl, rfl, by show 0 + 2 * k0 ≤ 14; omega, HC2⟩
  case round =>
    obtain ⟨k, t, hk9, rfl, rfl, ht, HC⟩ := hrel
    by_cases hlt : 0 < k
    · have hgl := HC.out.lt
      have hlo := HC.out.lo
      have HS : Hid (∀ W, Chg g (g + 1) (wr.alloc (.cells #[.string ⟨#[97]⟩, .string ⟨#[98, 99]⟩, .string ⟨#[32]⟩, .string ⟨#[44]⟩, .string ⟨#[120, 49]⟩] 9)) W → Strs W (.slice (some ⟨wr.heap.size, 0, none⟩) 5 5) lits5) := fun W hW => by
        have h1 := World.ownsRow_lit (e := tStr) (base := wr.heap.size) (size := 1) wr #[.string ⟨#[97]⟩, .string ⟨#[98, 99]⟩, .string ⟨#[32]⟩, .string ⟨#[44]⟩, .string ⟨#[120, 49]⟩] 5 (Nat.le_refl _) (by decide) (by simp)
        have h2 : OwnS tStr (wr.alloc (.cells #[.string ⟨#[97]⟩, .string ⟨#[98, 99]⟩, .string ⟨#[32]⟩, .string ⟨#[44]⟩, .string ⟨#[120, 49]⟩] tStr)) wr.heap.size (wr.heap.size + 1) (.slice (some ⟨wr.heap.size, 0, none⟩) 5 5) lits5 := by
          refine ⟨⟨h1, fun g hg => by simp [Value.ownBlock] at hg; omega⟩, ?_⟩
          intro x hx
          simp [lits5] at hx
          rcases hx with rfl | rfl | rfl | rfl | rfl <;> decide
        exact (h2.chg hW (.inr (by omega))).strs
      have HC3 := Lib.hid (HC.out.keep ((Below.refl _ wr).alloc (Nat.le_refl _) (.cells #[.string ⟨#[97]⟩, .string ⟨#[98, 99]⟩, .string ⟨#[32]⟩, .string ⟨#[44]⟩, .string ⟨#[120, 49]⟩] 9)) hgl (by omega))
      go_wp2_with fail
      refine (l01Str w _ g _ _ xs lits5 HB.out HC3.out (by decide) (by decide) HS.out).mono ?_; rintro e w3 ⟨q, hq, rfl, C4, _⟩
      have HC4 := Lib.hid C4
      have hqs : q.size ≤ 2 := by
        simp [lits5] at hq
        rcases hq with rfl | rfl | rfl | rfl | rfl <;> decide
      have hts : (t ++ q).size = t.size + q.size := by rw [ByteArray.size_append]
      clear C4 hq
      go_wp2
      go_roundw
      case rel => exact ⟨k - 1, _, by omega, by go_num, rfl, by rw [hts]; omega, HC4⟩
      case measure => simp [intOf]; omega
    · go_wp2
      go_ret
      exact ⟨t, by omega, rfl, HC.out.below⟩
end Go.Proofs.YtifdjdhnfnincaaDoor
