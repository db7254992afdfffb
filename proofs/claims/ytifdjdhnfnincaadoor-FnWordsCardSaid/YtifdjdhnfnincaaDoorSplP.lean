/- The plain law of splitting at one byte: the library's way and the reference's give the same pieces. -/
import Derived.Test.YtifdjdhnfnincaaDoorSplit
import Derived.Lib.SplitLaws
namespace Go.Proofs.YtifdjdhnfnincaaDoor
open Go.RowKit
set_option linter.unusedVariables false

def consHd (c : UInt8) : List (List UInt8) → List (List UInt8)
  | [] => [[c]]
  | h :: t => (c :: h) :: t
/-- The pieces between the bytes 10. -/
def sp : List UInt8 → List (List UInt8)
  | [] => [[]]
  | c :: r => if c = 10 then [] :: sp r else consHd c (sp r)
theorem sp_ne (l : List UInt8) : sp l ≠ [] := by
  cases l with
  | nil => simp [sp]
  | cons c r =>
    unfold sp
    split
    · simp
    · cases sp r <;> simp [consHd]
theorem sp_snoc (c : UInt8) : ∀ (l : List UInt8) (P : List (List UInt8)) (q : List UInt8), sp l = P ++ [q] → sp (l ++ [c]) = if c = 10 then P ++ [q] ++ [[]] else P ++ [q ++ [c]] := by
  intro l
  induction l with
  | nil =>
    intro P q h
    have h1 : P = [] ∧ q = [] := by
      cases P with
      | nil => simpa [sp, eq_comm] using h
      | cons a P =>
        have := congrArg List.length h
        simp [sp] at this
    obtain ⟨rfl, rfl⟩ := h1
    by_cases hc : c = 10
    · rw [if_pos hc]; simp [sp, hc]
    · rw [if_neg hc]; simp [sp, hc, consHd]
  | cons b l ih =>
    intro P q h
    by_cases hb : b = 10
    · have e1 : sp (b :: l) = [] :: sp l := by rw [sp, if_pos hb]
      have e2 : sp (b :: l ++ [c]) = [] :: sp (l ++ [c]) := by rw [List.cons_append, sp, if_pos hb]
      rw [e1] at h
      rw [e2]
      cases P with
      | nil =>
        simp only [List.nil_append, List.cons.injEq] at h
        exact absurd h.2 (sp_ne l)
      | cons a P =>
        simp only [List.cons_append, List.cons.injEq] at h
        obtain ⟨rfl, h⟩ := h
        rw [ih P q h]
        split <;> simp
    · have e1 : sp (b :: l) = consHd b (sp l) := by rw [sp, if_neg hb]
      have e2 : sp (b :: l ++ [c]) = consHd b (sp (l ++ [c])) := by rw [List.cons_append, sp, if_neg hb]
      rw [e1] at h
      rw [e2]
      cases hl : sp l with
      | nil => exact absurd hl (sp_ne l)
      | cons x t =>
        rw [hl] at h
        cases P with
        | nil =>
          simp only [consHd, List.nil_append, List.cons.injEq] at h
          obtain ⟨rfl, rfl⟩ := h
          rw [ih [] x (by rw [hl]; rfl)]
          split <;> simp [consHd]
        | cons a P =>
          simp only [consHd, List.cons_append, List.cons.injEq] at h
          obtain ⟨rfl, h⟩ := h
          rw [ih (x :: P) q (by rw [hl, h]; rfl)]
          split <;> simp [consHd]
theorem sp_miss : ∀ (l : List UInt8), Lib.indexByte l 10 = -1 → sp l = [l] := by
  intro l
  induction l with
  | nil => intro _; rfl
  | cons b l ih =>
    intro h
    unfold Lib.indexByte at h
    by_cases hb : b = 10
    · subst hb; simp at h
    · have hb' : (b == 10) = false := by simpa using hb
      rw [hb'] at h
      have h1 : Lib.indexByte l 10 = -1 := by
        by_cases e : Lib.indexByte l 10 = -1
        · exact e
        · have := Lib.indexByte_ge l 10
          simp [e] at h; omega
      rw [sp, if_neg hb, ih h1]; rfl
theorem sp_hit : ∀ (l : List UInt8) (i : Nat), Lib.indexByte l 10 = (i : Int) → sp l = l.take i :: sp (l.drop (i + 1)) := by
  intro l
  induction l with
  | nil => intro i h; simp [Lib.indexByte] at h <;> omega
  | cons b l ih =>
    intro i h
    unfold Lib.indexByte at h
    by_cases hb : b = 10
    · subst hb
      have : i = 0 := by simp at h; first | exact h.symm | omega
      subst this
      simp [sp]
    · have hb' : (b == 10) = false := by simpa using hb
      rw [hb'] at h
      by_cases e : Lib.indexByte l 10 = -1
      · rw [e] at h; simp at h; try omega
      · have h2 : Lib.indexByte l 10 + 1 = (i : Int) := by simpa [e] using h
        have := Lib.indexByte_ge l 10
        obtain ⟨j, rfl⟩ : ∃ j, i = j + 1 := ⟨i - 1, by omega⟩
        rw [sp, if_neg hb, ih j (by omega)]
        simp [consHd]
theorem splitB_sp : ∀ (k : Nat) (s : ByteArray), Lib.countB s ⟨#[10]⟩ = k → (Lib.splitB ⟨#[10]⟩ 0 k s).map (·.data.toList) = sp s.data.toList := by
  intro k
  have h1 : 1 ≤ (⟨#[10]⟩ : ByteArray).size := by decide
  have hix : ∀ s : ByteArray, Lib.indexB s ⟨#[10]⟩ = Lib.indexByte s.data.toList 10 := fun s => Lib.index_one _ _
  induction k with
  | zero =>
    intro s hs
    rcases Lib.indexB_cases s ⟨#[10]⟩ with h | ⟨i, h, _⟩
    · rw [Lib.splitB_miss _ _ _ _ h, sp_miss _ (by rw [← hix]; exact h)]; rfl
    · have := Lib.countB_hit s ⟨#[10]⟩ i h1 h
      omega
  | succ k ih =>
    intro s hs
    rcases Lib.indexB_cases s ⟨#[10]⟩ with h | ⟨i, h, hi⟩
    · rw [Lib.splitB_miss _ _ _ _ h, sp_miss _ (by rw [← hix]; exact h)]; rfl
    · have hc := Lib.countB_hit s ⟨#[10]⟩ i h1 h
      rw [Lib.splitB_hit _ _ _ _ i h, List.map_cons, ih _ (by omega), sp_hit s.data.toList i (by rw [← hix]; exact h)]
      have e1 : (⟨#[10]⟩ : ByteArray).size = 1 := rfl
      rw [e1] at hi ⊢
      have e3 : (s.extract (i + 1) s.size).data.toList = s.data.toList.drop (i + 1) := by
        simp
        exact List.take_of_length_le (by simp)
      rw [e3]
      congr 1
      simp
theorem spl_sp (s : ByteArray) : ∀ i, i ≤ s.size → sp (s.data.toList.take i) = ((spl s ⟨#[10]⟩ i).1.map (·.data.toList)) ++ [(s.data.toList.take i).drop (spl s ⟨#[10]⟩ i).2] := by
  intro i
  induction i with
  | zero => intro _; simp [spl, sp]
  | succ i ih =>
    intro hi
    have hlt : i < s.data.toList.length := by show i < s.size; omega
    have hle := (spl_le s ⟨#[10]⟩ i).1
    have hg : s.data.toList.getD i 0 = s.data.toList[i] := by rw [List.getD_eq_getElem?_getD, List.getElem?_eq_getElem hlt]; rfl
    rw [List.take_succ_eq_append_getElem hlt, sp_snoc _ _ _ _ (ih (by omega))]
    have hlen : (s.data.toList.take i).length = i := by rw [List.length_take]; omega
    by_cases hc : s.data.toList[i] = 10
    · rw [if_pos hc, spl_yes (by unfold hitB; rw [hg, hc]; rfl)]
      rw [List.map_append, List.append_assoc, List.append_assoc]
      congr 1
      have e2 : (List.take i s.data.toList ++ [s.data.toList[i]]).drop (i + 1) = [] := List.drop_of_length_le (by rw [List.length_append, hlen]; simp)
      rw [e2]
      simp [List.drop_take]
    · rw [if_neg hc, spl_no (by unfold hitB; rw [hg]; simpa using hc)]
      congr 1
      rw [List.drop_append_of_le_length (by omega)]
theorem splL_sp (s : ByteArray) : (splL s ⟨#[10]⟩).map (·.data.toList) = sp s.data.toList := by
  have h := spl_sp s s.size (Nat.le_refl _)
  have e : s.data.toList.take s.size = s.data.toList := List.take_of_length_le (by simp)
  rw [e] at h
  rw [h]
  unfold splL
  rw [List.map_append]
  congr 1
  have e5 : List.take (s.size - (spl s ⟨#[10]⟩ s.size).2) (List.drop (spl s ⟨#[10]⟩ s.size).2 s.data.toList) = List.drop (spl s ⟨#[10]⟩ s.size).2 s.data.toList := List.take_of_length_le (by rw [List.length_drop]; exact Nat.le_refl _)
  simp
  first | exact e5 | exact e5.symm
theorem split_eq (s : ByteArray) : Lib.splitB ⟨#[10]⟩ 0 (Lib.countB s ⟨#[10]⟩) s = splL s ⟨#[10]⟩ := by
  have h : (Lib.splitB ⟨#[10]⟩ 0 (Lib.countB s ⟨#[10]⟩) s).map (·.data.toList) = (splL s ⟨#[10]⟩).map (·.data.toList) := by
    rw [splitB_sp _ s rfl, splL_sp]
  refine (List.map_inj_right ?_).1 h
  intro a b hab
  cases a; cases b
  congr 1
  exact Array.toList_inj.1 hab
theorem count_len (s : ByteArray) : (splL s ⟨#[10]⟩).length = Lib.countB s ⟨#[10]⟩ + 1 := by
  rw [← split_eq]; exact Lib.splitB_all _ (by decide) 0 _ s rfl
end Go.Proofs.YtifdjdhnfnincaaDoor
