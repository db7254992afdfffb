/- Contracts: Join of texts, the program's and the reference's. -/
import Derived.Test.YtifdjdhnfnincaaDoorStrs
import Derived.Test.YtifdjdhnfnincaaDoorShelfJoin
import Derived.Lib.Join
namespace Go.Proofs.YtifdjdhnfnincaaDoor
open Go.RowKit
set_option linter.unusedVariables false

theorem bytes_eq2 {s t : ByteArray} (h : s.data.toList = t.data.toList) : s = t := by
  cases s; cases t; congr 1; exact Array.toList_inj.1 h
theorem ret_str2 {s t : ByteArray} (h : s = t) : Ending.returned (.string s) = .returned (.string t) := by rw [h]
def datas (xs : List ByteArray) : List (List UInt8) := xs.map (·.data.toList)
theorem datas_snoc (xs : List ByteArray) (x : ByteArray) : datas (xs ++ [x]) = datas xs ++ [x.data.toList] := by simp [datas]
theorem join_snoc (l : List (List UInt8)) (x sep : List UInt8) (h : l ≠ []) : Lib.join (l ++ [x]) sep = Lib.join l sep ++ sep ++ x := by
  cases l with
  | nil => exact absurd rfl h
  | cons a r => rw [List.cons_append, Lib.join_cons, Lib.join_cons]; simp [Lib.joinTail, List.append_assoc]
/-- The texts put together with another one between them. -/
def joinT (xs : List ByteArray) (b : ByteArray) : ByteArray := ⟨(Lib.join (datas xs) b.data.toList).toArray⟩
theorem joinT_nil (b : ByteArray) : joinT [] b = ⟨#[]⟩ := rfl
theorem joinT_one (x b : ByteArray) : joinT [x] b = x := bytes_eq2 (by simp [joinT, datas, Lib.join_one])
theorem joinT_next (xs : List ByteArray) (b : ByteArray) (k : Nat) (h : k < xs.length) (h0 : 0 < k) : joinT (xs.take (k + 1)) b = joinT (xs.take k) b ++ b ++ xs[k] := by
  apply bytes_eq2
  rw [List.take_succ_eq_append_getElem h]
  unfold joinT
  rw [datas_snoc, join_snoc _ _ _ (by
    intro e
    have := congrArg List.length e
    simp only [datas, List.length_map, List.length_take, List.length_nil] at this; omega)]
  simp
theorem joinT_first (xs : List ByteArray) (b : ByteArray) (h : 0 < xs.length) : joinT (xs.take 1) b = xs[0] := by
  have : xs.take 1 = [xs[0]] := by
    cases xs with
    | nil => simp at h
    | cons a l => simp
  rw [this, joinT_one]
theorem join_len (l : List (List UInt8)) (sep : List UInt8) : (Lib.join l sep).length ≤ (l.map List.length).sum + l.length * sep.length := by
  cases l with
  | nil => simp [Lib.join_nil]
  | cons a r =>
    rw [Lib.join_cons]
    have : (Lib.joinTail sep r).length = (r.map List.length).sum + r.length * sep.length := by
      induction r with
      | nil => simp [Lib.joinTail]
      | cons b r ih =>
        have e : Lib.joinTail sep (b :: r) = (sep ++ b) ++ Lib.joinTail sep r := by simp [Lib.joinTail]
        rw [e]; simp [ih, Nat.add_mul]; omega
    simp [this, Nat.add_mul]; omega
theorem datas_len (xs : List ByteArray) : ((datas xs).map List.length).sum = sumSize xs := by
  unfold datas sumSize; rw [List.map_map]; rfl

set_option maxHeartbeats 800000 in
set_option maxRecDepth 100000 in
theorem implJoin (v : Value) (xs : List ByteArray) (b : ByteArray) (w : World) (h : Strs w v xs) (hl : xs.length + sumSize xs ≤ 1048576) (hb : b.size ≤ maxLen) (hb2 : b.size ≤ 1048576) :
    Calls Tryd.prog 8 #[v, .string b] w fun e w' => e = .returned (.string (joinT xs b)) ∧ Below w.heap.size w w' := by
  obtain ⟨ao, cap, rfl, hcap, hmax, hnil, hcell⟩ := h
  unfold maxLen at hmax
  have C : Hid (Calls Tryd.prog 19 #[.slice ao xs.length cap, .string b] w fun e w' => e = .returned (.string (joinT xs b)) ∧ Below w.heap.size w w') := by
    cases xs with
    | nil =>
      exact (Tryd.strings_Join_none ao cap b w).mono fun e w' ⟨h1, h2⟩ => ⟨by rw [h1]; rfl, by rw [h2]; exact Below.refl _ _⟩
    | cons x0 l =>
      obtain ⟨bk, o, u, rfl, hu, _, _⟩ := hcell 0 (by simp)
      refine Tryd.strings_Join bk o cap (x0 :: l) b w (fun j x hj => ?_) (World.block_lt_of_cell? w _ hu) (by omega) hcap ?_
      · obtain ⟨hj1, hj2⟩ := List.getElem?_eq_some_iff.1 hj
        obtain ⟨b', o', u', e', hu', rfl, _⟩ := hcell j hj1
        simp only [Option.some.injEq, Addr.mk.injEq] at e'
        obtain ⟨rfl, rfl, _⟩ := e'
        rw [← hj2]; exact hu'
      · have h1 := join_len (datas (x0 :: l)) b.data.toList
        rw [datas_len] at h1
        have h2 : (datas (x0 :: l)).length ≤ 1048576 := by simp only [datas, List.length_map]; omega
        have h3 : b.data.toList.length ≤ 1048576 := hb2
        have h4 := Nat.mul_le_mul h2 h3
        show (Lib.join (datas (x0 :: l)) b.data.toList).length ≤ _
        omega
  clear hcell
  go_enter Tryd.func8, Tryd.ntmps8
  go_wp2_with (go_at_call 19; refine C.out.mono ?_; rintro e w2 ⟨rfl, b2⟩)
  go_ret
  exact ⟨rfl, b2⟩
end Go.Proofs.YtifdjdhnfnincaaDoor
