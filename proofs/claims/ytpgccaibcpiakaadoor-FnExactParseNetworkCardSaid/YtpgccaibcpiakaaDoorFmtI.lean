/- Contracts: FormatInt, the reference's. -/
import Derived.Test.YtpgccaibcpiakaaDoorBase
import Derived.Test.YtpgccaibcpiakaaDoorDec
import Derived.Deep.RegionWith
import Derived.Outline
import Derived.Laws.BytesArg
namespace Go.Proofs.YtpgccaibcpiakaaDoor
open Go.RowKit
set_option linter.unusedVariables false

/-- A text comes back; nothing that was there has turned. -/
def GivesT (w : World) (s : ByteArray) (en : Ending) (w' : World) : Prop := en = .returned (.string s) ∧ Below w.heap.size w w'
theorem bytes_eq {s t : ByteArray} (h : s.data.toList = t.data.toList) : s = t := by
  cases s; cases t; congr 1; exact Array.toList_inj.1 h
theorem ret_str {s t : ByteArray} (h : s = t) : Ending.returned (.string s) = .returned (.string t) := by rw [h]
/-- The numeral as a text. -/
def itoaB (n : Int) : ByteArray := ⟨(Lib.itoa n).toArray⟩
theorem itoaB_list (n : Int) : (itoaB n).data.toList = Lib.itoa n := rfl
theorem convB (W : World) (g : Nat) (x : Int) (c : UInt8) (hx : x = (c.toNat : Int)) (hc : W.cell? ⟨g, 0, none⟩ = some (.int .u8 x)) :
    (convert 48 9 (.slice (some ⟨g, 0, none⟩) 1 1)).run Tryd.prog W = .ok (.string ⟨#[c]⟩) W := by
  subst hx
  exact run_convert_bytes_back W 48 9 5 ⟨g, 0, none⟩ 1 [c] Tryd.underlying48 Tryd.underlying5 Tryd.underlying9 (fun j hj => by
    have : j = 0 := by simpa using hj
    subst this
    simpa [Addr.add] using hc)

/-- The byte of a digit. -/
def dgC (k : Nat) : UInt8 := UInt8.ofNat (48 + k)
theorem dgC_nat {k : Nat} (h : k < 10) : ((dgC k).toNat : Int) = 48 + (k : Int) := by unfold dgC; rw [dg_toNat k h]; omega
theorem one_size (c : UInt8) (t : ByteArray) : ((⟨#[c]⟩ : ByteArray) ++ t).size = 1 + t.size := by rw [ByteArray.size_append]; rfl

set_option maxHeartbeats 1600000 in
set_option maxRecDepth 100000 in
theorem specFormatInt_pos (n : Nat) (w : World) (hn : n ≤ 9223372036854775807) :
    Calls Tryd.prog 13 #[.int .i64 (n : Int)] w (GivesT w (itoaB n)) := by
  have h0 : decide ((n : Int) < 0) = false := decide_eq_false (by omega)
  have hlen : (Lib.decDigits n).length ≤ 19 := decDigits_len19 n (by omega)
  go_enter Tryd.func13, Tryd.ntmps13
  go_wp2
  go_loopw [0, 3] (fun q s wr => ∃ (m : Nat) (t : ByteArray), q = .int .i64 m ∧ m ≤ 9223372036854775807 ∧ s = .string t ∧ Hid (Lib.decDigits n = Lib.decDigits m ++ t.data.toList) ∧ Below w.heap.size w wr) (fun q _ _ => (intOf q).toNat)
  case atStart => exact ⟨n, _, rfl, hn, rfl, Lib.hid (by simp), Below.refl _ _⟩
  case round =>
    obtain ⟨m, t, rfl, hm, rfl, HT, hb⟩ := hrel
    have hs := hb.size
    have hts : t.size ≤ 19 := by
      have := congrArg List.length HT.out
      rw [List.length_append] at this
      have e : t.data.toList.length = t.size := rfl
      omega
    by_cases hlt : m > 9
    · have e1 : decide ((m : Int) > 9) = true := decide_eq_true (by omega)
      have hcv := convB (wr.alloc (.cells #[.int .u8 (48 + (m : Int) % 10)] 5)) wr.heap.size (48 + (m : Int) % 10) (dgC (m % 10)) (by rw [dgC_nat (by omega)]; omega) (cell_alloc0 _ _ _)
      have hsz := one_size (dgC (m % 10)) t
      have HT2 : Hid (Lib.decDigits n = Lib.decDigits (m / 10) ++ ((⟨#[dgC (m % 10)]⟩ : ByteArray) ++ t).data.toList) := by
        show _ = _
        rw [HT.out, decDigits_big (by omega)]
        simp [dgC]
      have R := (hb.alloc hs (.cells #[.int .u8 (48 + (m : Int) % 10)] 5))
      clear hb HT
      go_wp2
      go_roundw
      case rel => exact ⟨m / 10, _, by go_num, by omega, rfl, HT2, R⟩
      case measure => simp [intOf]; omega
    · have hcv := convB (wr.alloc (.cells #[.int .u8 (48 + (m : Int))] 5)) wr.heap.size (48 + (m : Int)) (dgC m) (by rw [dgC_nat (by omega)]) (cell_alloc0 _ _ _)
      have hsz := one_size (dgC m) t
      have HE : Hid ((⟨#[dgC m]⟩ : ByteArray) ++ t = itoaB n) := by
        show _ = _
        apply bytes_eq
        rw [itoaB_list, Lib.itoa_nonneg, HT.out, decDigits_small (by omega)]
        simp [dgC]
      have R := (hb.alloc hs (.cells #[.int .u8 (48 + (m : Int))] 5))
      clear hb HT
      go_wp2
      go_ret
      exact ⟨ret_str HE.out, R⟩
theorem tdiv_neg10 (u : Nat) : Int.tdiv (-(u : Int)) 10 = -((u / 10 : Nat) : Int) := by
  rw [Int.neg_tdiv, show (10 : Int) = ((10 : Nat) : Int) from rfl, ← Int.ofNat_tdiv]
theorem tmod_neg10 (u : Nat) : Int.tmod (-(u : Int)) 10 = -((u % 10 : Nat) : Int) := by
  rw [Int.neg_tmod, show (10 : Int) = ((10 : Nat) : Int) from rfl, ← Int.ofNat_tmod]
set_option maxHeartbeats 400000 in
set_option maxRecDepth 100000 in
theorem specFormatInt_neg (u : Nat) : 1 ≤ u → u ≤ 9223372036854775808 → ∀ w, Calls Tryd.prog 13 #[.int .i64 (-(u : Int))] w (GivesT w (itoaB (-(u : Int)))) := by
  induction u using Nat.strongRecOn with
  | ind u ih =>
    intro h1 h2 w
    have h0 : decide (-(u : Int) < 0) = true := decide_eq_true (by omega)
    have hq := tdiv_neg10 u
    have hm := tmod_neg10 u
    by_cases hlt : u < 10
    · have hz : u / 10 = 0 := by omega
      rw [hz] at hq
      have hcv := convB (w.alloc (.cells #[.int .u8 (48 + (u : Int))] 5)) w.heap.size (48 + (u : Int)) (dgC u) (by rw [dgC_nat hlt]) (cell_alloc0 _ _ _)
      clear ih hm
      go_enter Tryd.func13, Tryd.ntmps13
      go_wp2
      go_ret
      exact ⟨ret_str (by
        apply bytes_eq
        rw [itoaB_list, Lib.itoa_neg u h1, decDigits_small hlt]
        simp [dgC]), (Below.refl _ _).alloc (Nat.le_refl _) _⟩
    · have IH := Lib.hid (fun W => ih (u / 10) (by omega) (by omega) (by omega) W)
      have e10 : ((u / 10 : Nat) : Int) = (u : Int) / 10 := by omega
      have e1m : ((u % 10 : Nat) : Int) = (u : Int) % 10 := by omega
      rw [e10] at IH
      have hb0 : ((-((u : Int) / 10)) == 0) = false := by
        rw [beq_eq_false_iff_ne]; omega
      have hcv : ∀ (W : World) (g : Nat), W.cell? ⟨g, 0, none⟩ = some (.int .u8 (48 + (u : Int) % 10)) → (convert 48 9 (.slice (some ⟨g, 0, none⟩) 1 1)).run Tryd.prog W = .ok (.string ⟨#[dgC (u % 10)]⟩) W :=
        fun W g hc => convB W g (48 + (u : Int) % 10) (dgC (u % 10)) (by rw [dgC_nat (by omega)]; omega) hc
      have hwq : IntKind.i64.wrap (-((u : Int) / 10)) = -((u : Int) / 10) := IntWalk.i64_in _ ⟨by omega, by omega⟩
      have htm : Int.tmod (u : Int) 10 = (u : Int) % 10 := Int.tmod_eq_emod_of_nonneg (by omega)
      have hwm : IntKind.i64.wrap (48 + (u : Int) % 10) = 48 + (u : Int) % 10 := IntWalk.i64_in _ ⟨by omega, by omega⟩
      have hwm2 : IntKind.u8.wrap (48 + (u : Int) % 10) = 48 + (u : Int) % 10 := IntWalk.u8_in _ ⟨by omega, by omega⟩
      have hlen : (Lib.decDigits (u / 10)).length ≤ 19 := decDigits_len19 _ (by omega)
      have hsz : (itoaB (-((u : Int) / 10))).size ≤ 20 := by
        rw [← e10]
        show (Lib.itoa (-((u / 10 : Nat) : Int))).length ≤ 20
        rw [Lib.itoa_neg _ (by omega), List.length_cons]; omega
      have HE : Hid (itoaB (-((u : Int) / 10)) ++ (⟨#[dgC (u % 10)]⟩ : ByteArray) = itoaB (-(u : Int))) := by
        show _ = _
        apply bytes_eq
        rw [← e10]
        show (itoaB (-((u / 10 : Nat) : Int)) ++ (⟨#[dgC (u % 10)]⟩ : ByteArray)).data.toList = Lib.itoa (-(u : Int))
        rw [Lib.itoa_neg u h1, decDigits_big (by omega)]
        have := itoaB_list (-((u / 10 : Nat) : Int))
        rw [Lib.itoa_neg _ (by omega)] at this
        rw [ByteArray.data_append, Array.toList_append, this]
        simp [dgC]
      have hs1 : ((itoaB (-((u : Int) / 10))) ++ (⟨#[dgC (u % 10)]⟩ : ByteArray)).size = (itoaB (-((u : Int) / 10))).size + 1 := by rw [ByteArray.size_append]; rfl
      clear ih hq hm e10 e1m hlen
      go_enter Tryd.func13, Tryd.ntmps13
      go_wp2
      go_region_with ((go_at_call 13; (with_reducible refine (IH.out _).mono ?_); rintro e w1 ⟨rfl, b1⟩; (first | (have k1 : w1.cell? ⟨w.heap.size, 0, none⟩ = some (.int .u8 (48 + (u : Int) % 10)) := Below.keeps b1 _ _ (cell_alloc0 _ _ _)) | skip)))
      all_goals
        go_wp2
        go_ret
        refine ⟨ret_str HE.out, ?_⟩
        first
          | exact ((Below.refl _ _).drew.trans b1).alloc (by have := b1.size; exact this) _
          | exact ((Below.refl _ _).drew.alloc (Nat.le_refl _) _).trans (b1.mono (by simp))
theorem specFormatInt (n : Int) (w : World) (hn : (Lit.int .i64 n).wf = true) : Calls Tryd.prog 13 #[.int .i64 n] w (GivesT w (itoaB n)) := by
  have hb := (in64_iff n).1 hn
  rcases Int.lt_or_le n 0 with h | h
  · obtain ⟨u, rfl⟩ : ∃ u : Nat, n = -(u : Int) := ⟨n.natAbs, by omega⟩
    exact specFormatInt_neg u (by omega) (by omega) w
  · obtain ⟨u, rfl⟩ : ∃ u : Nat, n = (u : Int) := ⟨n.toNat, by omega⟩
    exact specFormatInt_pos u w (by omega)
end Go.Proofs.YtpgccaibcpiakaaDoor
