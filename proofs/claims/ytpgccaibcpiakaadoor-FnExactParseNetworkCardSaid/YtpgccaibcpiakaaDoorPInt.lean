/- Contracts: ParseInt, the reference's. -/
import Derived.Test.YtpgccaibcpiakaaDoorFmtI
import Derived.Test.YtpgccaibcpiakaaDoorPiP
import Derived.Test.YtpgccaibcpiakaaDoorText1
namespace Go.Proofs.YtpgccaibcpiakaaDoor
open Go.RowKit
set_option linter.unusedVariables false

/-- A number and a truth value come back; nothing that was there has turned. -/
def GivesIB (w : World) (n : Int) (b : Bool) (en : Ending) (w' : World) : Prop := en = .returned (.tuple #[.int .i64 n, .bool b]) ∧ Below w.heap.size w w'
theorem strq (s t : ByteArray) : (s.toList == t.toList) = decide (s = t) := by
  rw [ByteArray.toList_eq, ByteArray.toList_eq]
  by_cases h : s = t
  · subst h; simp
  · have : ¬ s.data.toList = t.data.toList := fun e => h (bytes_eq e)
    simp [h]
    exact fun e => this (by rw [e])
theorem digitsOk_digL {t : ByteArray} (h : DigitsOk t) : DigL t.data.toList := by
  intro c hc
  obtain ⟨i, hi, rfl⟩ := List.getElem_of_mem hc
  have := h.1 i hi
  exact ⟨by have := this.1; show 48 ≤ t[i].toNat; omega, by have := this.2; show t[i].toNat ≤ 57; omega⟩
theorem digL_digitsOk {t : ByteArray} (h : DigL t.data.toList) (h0 : 0 < t.size) : DigitsOk t :=
  ⟨fun j hj => by have := h t[j] (List.getElem_mem (l := t.data.toList) (n := j) hj); exact ⟨by omega, by omega⟩, h0⟩
theorem PiT.no_ok {neg : Bool} {s t : ByteArray} (ht : PiT neg s t) (h : ¬ DigitsOk t) : ¬ PiP s := fun hp => by
  rcases Nat.eq_zero_or_pos t.size with h0 | h0
  · exact ht.no_empty h0 hp
  · exact ht.no_dig (fun hd => h (digL_digitsOk hd h0)) hp
theorem pi_false {s : ByteArray} (h : ¬ PiP s) : Hid (piN s = 0 ∧ tf (PiP s) = false) := ⟨piN_no h, tf_no h⟩
theorem pi_true {s : ByteArray} {n : Int} (hn : In64 n) (h : s.data.toList = Lib.itoa n) : Hid (piN s = n ∧ tf (PiP s) = true) := ⟨piN_eq hn h, tf_yes ⟨n, hn, h⟩⟩
theorem ret_ib {a b : Int} {c d : Bool} (h1 : a = b) (h2 : c = d) : Ending.returned (.tuple #[.int .i64 a, .bool c]) = .returned (.tuple #[.int .i64 b, .bool d]) := by rw [h1, h2]
theorem dv_step {t : ByteArray} {k p : Nat} (hk : k < t.size) (h : p = dvF 0 (t.data.toList.take k)) : p * 10 + (t[k].toNat - 48) = dvF 0 (t.data.toList.take (k + 1)) := by
  rw [List.take_succ_eq_append_getElem hk, dvF_snoc, ← h]; rfl
theorem PiT.head {s : ByteArray} (h0 : 0 < s.size) (hc : s[0] = 45) : PiT true s (s.extract 1 s.size) := by
  show s.data.toList = 45 :: (s.extract 1 s.size).data.toList
  have hl : 0 < s.data.toList.length := h0
  have e : (s.extract 1 s.size).data.toList = s.data.toList.drop 1 := by
    simp
    exact List.take_of_length_le (by simp)
  rw [e]
  cases hs : s.data.toList with
  | nil => rw [hs] at hl; cases hl
  | cons x r =>
    have : s[0] = x := by
      have h1 : s.data.toList[0] = s[0] := rfl
      rw [← h1]; simp [hs]
    rw [← this, hc]; rfl
theorem PiT.plain {s : ByteArray} (h : ∀ h0 : 0 < s.size, s[0] ≠ 45) : PiT false s s := ⟨rfl, fun r hr => by
  have hl : 0 < s.data.toList.length := by rw [hr]; simp
  refine h hl ?_
  have h1 : s.data.toList[0] = s[0] := rfl
  rw [← h1]; simp [hr]⟩

set_option maxHeartbeats 800000 in
set_option maxRecDepth 100000 in
theorem specParseInt (s : ByteArray) (w : World) (hs : s.size ≤ maxLen) (hs2 : s.size ≤ 1048576) :
    Calls Tryd.prog 5 #[.string s] w (GivesIB w (piN s) (tf (PiP s))) := by
  rcases Nat.eq_zero_or_pos s.size with h0 | h0
  · have hg : decide (0 < s.size) = false := decide_eq_false (by omega)
    have hn : ¬ DigitsOk s := fun h => by have := h.2; omega
    have htd := tf_no hn
    have HZ := pi_false ((PiT.plain (s := s) (fun h => by omega)).no_ok hn)
    clear hn h0
    go_enter Tryd.func5, Tryd.ntmps5
    go_wp2_with fail
    refine (specIsDigits s _ hs).mono ?_; rintro e w1 ⟨rfl, rfl⟩
    go_wp2
    go_ret2
    exact ⟨ret_ib HZ.out.1.symm HZ.out.2.symm, Below.refl _ _⟩
  · have hg : decide (0 < s.size) = true := decide_eq_true (by omega)
    by_cases hc : s[0] = 45
    · have h45 : ((s[0].toNat : Int) == 45) = true := by rw [hc]; rfl
      have HT := Lib.hid (PiT.head h0 hc)
      have hts : (s.extract 1 s.size).size ≤ maxLen := by rw [ByteArray.size_extract]; unfold maxLen; omega
      clear hc
      go_enter Tryd.func5, Tryd.ntmps5
      go_wp2_with fail
      generalize s.extract 1 s.size = t at *
      refine (specIsDigits t _ hts).mono ?_; rintro e w1 ⟨rfl, rfl⟩
      by_cases hd : DigitsOk t
      · have htd := tf_yes hd
        have HD := Lib.hid hd
        clear hd
        by_cases hl : t.size ≤ 19
        · have hl2 : decide ((t.size : Int) > 19) = false := decide_eq_false (by omega)
          go_wp2
          go_loop [6, 7] (fun n i => ∃ k p : Nat, k ≤ t.size ∧ i = .int .i64 k ∧ n = .int .i64 (-(p : Int)) ∧ p ≤ 9223372036854775808 ∧ Hid (p = dvF 0 (t.data.toList.take k))) (fun _ i => t.size - (intOf i).toNat)
          case atStart => exact ⟨0, 0, Nat.zero_le _, rfl, rfl, by omega, rfl⟩
          case round =>
            obtain ⟨k, p, hk9, rfl, rfl, hp, HP⟩ := hrel
            by_cases hlt : k < t.size
            · obtain ⟨d1, d2⟩ := HD.out.1 k hlt
              have HS := Lib.hid (dv_step hlt HP.out)
              have HC : Hid (9223372036854775808 < p * 10 + (t[k].toNat - 48) → ¬ PiP s) := fun h => HT.out.no_big hlt (by rw [← HP.out]; exact h)
              obtain ⟨d, hd48⟩ : ∃ d : Nat, t[k].toNat = 48 + d := ⟨t[k].toNat - 48, by omega⟩
              have hd9 : d ≤ 9 := by omega
              have hns := neg_step (p := p) hd9
              rw [hd48] at HS HC
              have e48 : 48 + d - 48 = d := by omega
              rw [e48] at HS HC
              have hu8 : (t[k].toNat : Int) = 48 + (d : Int) := by omega
              have hsub : (48 + (d : Int)) - 48 = (d : Int) := by omega
              clear d1 d2 hd48 e48 HP
              by_cases hov : 9223372036854775808 < p * 10 + d
              · have ov : decide (-(p : Int) < Int.tdiv (-9223372036854775808 + (d : Int)) 10) = true := decide_eq_true (hns.2 hov)
                have HZ := pi_false (HC.out hov)
                clear hns HC hov HS
                go_wp2
                go_ret2
                exact ⟨ret_ib HZ.out.1.symm HZ.out.2.symm, Below.refl _ _⟩
              · have ov : decide (-(p : Int) < Int.tdiv (-9223372036854775808 + (d : Int)) 10) = false := decide_eq_false (fun h => hov (hns.1 h))
                clear hns HC
                go_wp2
                go_round
                case rel => exact ⟨k + 1, p * 10 + d, by omega, by go_num, by go_num, by omega, HS⟩
                case measure => simp [intOf]; omega
            · obtain rfl : k = t.size := by omega
              have HE : Hid (p = dvF 0 t.data.toList) := by
                show _ = _
                have e : List.take t.size t.data.toList = t.data.toList := List.take_of_length_le (Nat.le_refl _)
                have := HP.out
                rwa [e] at this
              clear HP
              have HS := Lib.hid (specFormatInt (-(p : Int)) w (WalkArith.wf_i64 (by omega)))
              by_cases hq : itoaB (-(p : Int)) = s
              · have hst : ((itoaB (-(p : Int))).toList == s.toList) = true := by rw [strq]; exact decide_eq_true hq
                have HZ := pi_true (s := s) (n := -(p : Int)) ((in64_iff _).2 (by omega)) (by rw [← hq]; rfl)
                clear hq
                go_wp2_with fail
                refine HS.out.mono ?_; rintro e w2 ⟨rfl, b2⟩
                go_wp2
                go_ret2
                exact ⟨ret_ib HZ.out.1.symm HZ.out.2.symm, b2⟩
              · have hst : ((itoaB (-(p : Int))).toList == s.toList) = false := by rw [strq]; exact decide_eq_false hq
                have HZ := pi_false (HT.out.not (by show _ ≠ Lib.itoa (-(dvF 0 t.data.toList : Int)); rw [← HE.out]; exact fun e => hq (bytes_eq (by rw [itoaB_list]; exact e.symm))))
                clear hq
                go_wp2_with fail
                refine HS.out.mono ?_; rintro e w2 ⟨rfl, b2⟩
                go_wp2
                go_ret2
                exact ⟨ret_ib HZ.out.1.symm HZ.out.2.symm, b2⟩
        · have hl2 : decide ((t.size : Int) > 19) = true := decide_eq_true (by omega)
          have HZ := pi_false (HT.out.no_len (by omega))
          go_wp2
          go_ret2
          exact ⟨ret_ib HZ.out.1.symm HZ.out.2.symm, Below.refl _ _⟩
      · have htd := tf_no hd
        have HZ := pi_false (HT.out.no_ok hd)
        clear hd
        go_wp2
        go_ret2
        exact ⟨ret_ib HZ.out.1.symm HZ.out.2.symm, Below.refl _ _⟩
    · have h45 : ((s[0].toNat : Int) == 45) = false := by
        rw [beq_eq_false_iff_ne]
        intro e
        exact hc (UInt8.toNat_inj.1 (by have : (45 : UInt8).toNat = 45 := rfl; omega))
      have HT := Lib.hid (PiT.plain (s := s) (fun _ => hc))
      have hts := hs
      clear hc
      obtain ⟨t, rfl⟩ : ∃ t : ByteArray, t = s := ⟨_, rfl⟩
      go_enter Tryd.func5, Tryd.ntmps5
      go_wp2_with fail
      refine (specIsDigits t _ hts).mono ?_; rintro e w1 ⟨rfl, rfl⟩
      by_cases hd : DigitsOk t
      · have htd := tf_yes hd
        have HD := Lib.hid hd
        clear hd
        by_cases hl : t.size ≤ 19
        · have hl2 : decide ((t.size : Int) > 19) = false := decide_eq_false (by omega)
          go_wp2
          go_loop [6, 7] (fun n i => ∃ k p : Nat, k ≤ t.size ∧ i = .int .i64 k ∧ n = .int .i64 (-(p : Int)) ∧ p ≤ 9223372036854775808 ∧ Hid (p = dvF 0 (t.data.toList.take k))) (fun _ i => t.size - (intOf i).toNat)
          case atStart => exact ⟨0, 0, Nat.zero_le _, rfl, rfl, by omega, rfl⟩
          case round =>
            obtain ⟨k, p, hk9, rfl, rfl, hp, HP⟩ := hrel
            by_cases hlt : k < t.size
            · obtain ⟨d1, d2⟩ := HD.out.1 k hlt
              have HS := Lib.hid (dv_step hlt HP.out)
              have HC : Hid (9223372036854775808 < p * 10 + (t[k].toNat - 48) → ¬ PiP t) := fun h => HT.out.no_big hlt (by rw [← HP.out]; exact h)
              obtain ⟨d, hd48⟩ : ∃ d : Nat, t[k].toNat = 48 + d := ⟨t[k].toNat - 48, by omega⟩
              have hd9 : d ≤ 9 := by omega
              have hns := neg_step (p := p) hd9
              rw [hd48] at HS HC
              have e48 : 48 + d - 48 = d := by omega
              rw [e48] at HS HC
              have hu8 : (t[k].toNat : Int) = 48 + (d : Int) := by omega
              have hsub : (48 + (d : Int)) - 48 = (d : Int) := by omega
              clear d1 d2 hd48 e48 HP
              by_cases hov : 9223372036854775808 < p * 10 + d
              · have ov : decide (-(p : Int) < Int.tdiv (-9223372036854775808 + (d : Int)) 10) = true := decide_eq_true (hns.2 hov)
                have HZ := pi_false (HC.out hov)
                clear hns HC hov HS
                go_wp2
                go_ret2
                exact ⟨ret_ib HZ.out.1.symm HZ.out.2.symm, Below.refl _ _⟩
              · have ov : decide (-(p : Int) < Int.tdiv (-9223372036854775808 + (d : Int)) 10) = false := decide_eq_false (fun h => hov (hns.1 h))
                clear hns HC
                go_wp2
                go_round
                case rel => exact ⟨k + 1, p * 10 + d, by omega, by go_num, by go_num, by omega, HS⟩
                case measure => simp [intOf]; omega
            · obtain rfl : k = t.size := by omega
              have HE : Hid (p = dvF 0 t.data.toList) := by
                show _ = _
                have e : List.take t.size t.data.toList = t.data.toList := List.take_of_length_le (Nat.le_refl _)
                have := HP.out
                rwa [e] at this
              clear HP
              by_cases hmin : p = 9223372036854775808
              · have hm2 : ((-(p : Int)) == -9223372036854775808) = true := by rw [hmin]; rfl
                have HZ := pi_false (HT.out.no_min (by rw [← HE.out]; omega))
                clear hmin
                go_wp2
                go_ret2
                exact ⟨ret_ib HZ.out.1.symm HZ.out.2.symm, Below.refl _ _⟩
              · have hm2 : ((-(p : Int)) == -9223372036854775808) = false := by rw [beq_eq_false_iff_ne]; omega
                have hp2 : p ≤ 9223372036854775807 := by omega
                have HS := Lib.hid (specFormatInt (p : Int) w (WalkArith.wf_i64 (by omega)))
                clear hmin hp
                by_cases hq : itoaB (p : Int) = t
                · have hst : ((itoaB (p : Int)).toList == t.toList) = true := by rw [strq]; exact decide_eq_true hq
                  have HZ := pi_true (s := t) (n := (p : Int)) ((in64_iff _).2 (by omega)) (by rw [← hq]; rfl)
                  clear hq
                  go_wp2_with fail
                  refine HS.out.mono ?_; rintro e w2 ⟨rfl, b2⟩
                  go_wp2
                  go_ret2
                  exact ⟨ret_ib HZ.out.1.symm HZ.out.2.symm, b2⟩
                · have hst : ((itoaB (p : Int)).toList == t.toList) = false := by rw [strq]; exact decide_eq_false hq
                  have HZ := pi_false (HT.out.not (by show _ ≠ Lib.itoa (dvF 0 t.data.toList : Int); rw [← HE.out]; exact fun e => hq (bytes_eq (by rw [itoaB_list]; exact e.symm))))
                  clear hq
                  go_wp2_with fail
                  refine HS.out.mono ?_; rintro e w2 ⟨rfl, b2⟩
                  go_wp2
                  go_ret2
                  exact ⟨ret_ib HZ.out.1.symm HZ.out.2.symm, b2⟩
        · have hl2 : decide ((t.size : Int) > 19) = true := decide_eq_true (by omega)
          have HZ := pi_false (HT.out.no_len (by omega))
          go_wp2
          go_ret2
          exact ⟨ret_ib HZ.out.1.symm HZ.out.2.symm, Below.refl _ _⟩
      · have htd := tf_no hd
        have HZ := pi_false (HT.out.no_ok hd)
        clear hd
        go_wp2
        go_ret2
        exact ⟨ret_ib HZ.out.1.symm HZ.out.2.symm, Below.refl _ _⟩
end Go.Proofs.YtpgccaibcpiakaaDoor
