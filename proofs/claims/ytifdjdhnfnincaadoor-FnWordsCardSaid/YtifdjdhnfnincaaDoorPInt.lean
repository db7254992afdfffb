/- Contracts: ParseInt, the reference's. -/
import Derived.Test.YtifdjdhnfnincaaDoorFmtI
import Derived.Test.YtifdjdhnfnincaaDoorPiP
import Derived.Test.YtifdjdhnfnincaaDoorText1
namespace Go.Proofs.YtifdjdhnfnincaaDoor
open Go.RowKit
set_option linter.unusedVariables false

/-- A number and a truth value come back; nothing that was there has turned. -/
def GivesIB (w : World) (n : Int) (b : Bool) (en : Ending) (w' : World) : Prop := en = .returned (.tuple #[.int .i64 n, .bool b]) ∧ Below w.heap.size w w'
theorem strq (s t : ByteArray) : (s.toList == t.toList) = decide (s = t) := by
  rw [ByteArray.toList_eq, ByteArray.toList_eq]
  by_cases h : s = t
  · subst h; simp
  · have : ¬ s.data.toList = t.data.toList := fun e => h (bytes_eq e)
    simp [h]
    exact fun e => this (by rw [e])
theorem digitsOk_digL {t : ByteArray} (h : DigitsOk t) : DigL t.data.toList := by
  intro c hc
  obtain ⟨i, hi, rfl⟩ := List.getElem_of_mem hc
  have := h.1 i hi
  exact ⟨by have := this.1; show 48 ≤ t[i].toNat; omega, by have := this.2; show t[i].toNat ≤ 57; omega⟩
theorem digL_digitsOk {t : ByteArray} (h : DigL t.data.toList) (h0 : 0 < t.size) : DigitsOk t :=
  ⟨fun j hj => by have := h t[j] (List.getElem_mem (l := t.data.toList) (n := j) hj); exact ⟨by omega, by omega⟩, h0⟩
theorem PiT.no_ok {neg : Bool} {s t : ByteArray} (ht : PiT neg s t) (h : ¬ DigitsOk t) : ¬ PiP s := fun hp => by
  rcases Nat.eq_zero_or_pos t.size with h0 | h0
  · exact ht.no_empty h0 hp
  · exact ht.no_dig (fun hd => h (digL_digitsOk hd h0)) hp
theorem pi_false {s : ByteArray} (h : ¬ PiP s) : Hid (piN s = 0 ∧ tf (PiP s) = false) := ⟨piN_no h, tf_no h⟩
theorem pi_true {s : ByteArray} {n : Int} (hn : In64 n) (h : s.data.toList = Lib.itoa n) : Hid (piN s = n ∧ tf (PiP s) = true) := ⟨piN_eq hn h, tf_yes ⟨n, hn, h⟩⟩
theorem ret_ib {a b : Int} {c d : Bool} (h1 : a = b) (h2 : c = d) : Ending.returned (.tuple #[.int .i64 a, .bool c]) = .returned (.tuple #[.int .i64 b, .bool d]) := by rw [h1, h2]
theorem dv_step {t : ByteArray} {k p : Nat} (hk : k < t.size) (h : p = dvF 0 (t.data.toList.take k)) : p * 10 + (t[k].toNat - 48) = dvF 0 (t.data.toList.take (k + 1)) := by
  rw [List.take_succ_eq_append_getElem hk, dvF_snoc, ← h]; rfl
theorem PiT.head {s : ByteArray} (h0 : 0 < s.size) (hc : s[0] = 45) : PiT true s (s.extract 1 s.size) := by
  show s.data.toList = 45 :: (s.extract 1 s.size).data.toList
  have hl : 0 < s.data.toList.length := h0
  have e : (s.extract 1 s.size).data.toList = s.data.toList.drop 1 := by
    simp
    exact List.take_of_length_le (by simp)
  rw [e]
  cases hs : s.data.toList with
  | nil => rw [hs] at hl; cases hl
  | cons x r =>
    have : s[0] = x := by
      have h1 : s.data.toList[0] = s[0] := rfl
      rw [← h1]; simp [hs]
    rw [← this, hc]; rfl
theorem PiT.plain {s : ByteArray} (h : ∀ h0 : 0 < s.size, s[0] ≠ 45) : PiT false s s := ⟨rfl, fun r hr => by
  have hl : 0 < s.data.toList.length := by rw [hr]; simp
  refine h hl ?_
  have h1 : s.data.toList[0] = s[0] := rfl
  rw [← h1]; simp [hr]⟩

end Go.Proofs.YtifdjdhnfnincaaDoor
