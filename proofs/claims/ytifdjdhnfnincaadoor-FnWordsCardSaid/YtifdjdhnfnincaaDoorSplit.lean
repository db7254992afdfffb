/- Contracts: SplitAny, the program's and the reference's. -/
import Derived.Test.YtifdjdhnfnincaaDoorStrs
import Derived.Test.YtifdjdhnfnincaaDoorApp
import Derived.Test.YtifdjdhnfnincaaDoorShelfSplit
import Derived.Lib.IndexAny
namespace Go.Proofs.YtifdjdhnfnincaaDoor
open Go.RowKit
set_option linter.unusedVariables false

/-- Whether byte i of s is among the bytes of b. -/
def hitB (s b : ByteArray) (i : Nat) : Bool := b.data.toList.contains (s.data.toList.getD i 0)
/-- The pieces that the first i bytes give, and where the next piece begins. -/
def spl (s b : ByteArray) : Nat → List ByteArray × Nat
  | 0 => ([], 0)
  | i + 1 => if hitB s b i = true then ((spl s b i).1 ++ [s.extract (spl s b i).2 i], i + 1) else spl s b i
theorem spl_yes {s b : ByteArray} {i : Nat} (h : hitB s b i = true) : spl s b (i + 1) = ((spl s b i).1 ++ [s.extract (spl s b i).2 i], i + 1) := by rw [spl, if_pos h]
theorem spl_no {s b : ByteArray} {i : Nat} (h : hitB s b i = false) : spl s b (i + 1) = spl s b i := by rw [spl, if_neg (by rw [h]; simp)]
theorem spl_le (s b : ByteArray) (i : Nat) : (spl s b i).2 ≤ i ∧ (spl s b i).1.length ≤ i ∧ ∀ x ∈ (spl s b i).1, x.size ≤ s.size := by
  induction i with
  | zero => exact ⟨Nat.le_refl _, Nat.le_refl _, fun x hx => by cases hx⟩
  | succ i ih =>
    cases h : hitB s b i
    · rw [spl_no h]; exact ⟨by omega, by omega, ih.2.2⟩
    · rw [spl_yes h]
      refine ⟨Nat.le_refl _, by simp; omega, fun x hx => ?_⟩
      rcases List.mem_append.1 hx with h1 | h1
      · exact ih.2.2 x h1
      · simp only [List.mem_singleton] at h1; subst h1; simp; omega
/-- The pieces of s between the bytes of b. -/
def splL (s b : ByteArray) : List ByteArray := (spl s b s.size).1 ++ [s.extract (spl s b s.size).2 s.size]
theorem splL_len (s b : ByteArray) : (splL s b).length ≤ s.size + 1 := by
  unfold splL; have := (spl_le s b s.size).2.1; simp; omega
theorem splL_sz (s b : ByteArray) (h : s.size ≤ maxLen) : ∀ x ∈ splL s b, x.size ≤ maxLen := by
  intro x hx
  unfold splL at hx
  rcases List.mem_append.1 hx with h1 | h1
  · exact Nat.le_trans ((spl_le s b s.size).2.2 x h1) h
  · simp only [List.mem_singleton] at h1; subst h1
    refine Nat.le_trans ?_ h
    simp
theorem hitB_mem {s b : ByteArray} {i : Nat} (hi : i < s.size) : hitB s b i = true ↔ ∃ (q : Nat) (hq : q < b.size), b[q] = s[i] := by
  unfold hitB
  have e : s.data.toList.getD i 0 = s[i] := by
    rw [List.getD_eq_getElem?_getD, List.getElem?_eq_getElem (by simpa using hi)]; rfl
  rw [e, List.contains_iff_mem]
  constructor
  · intro h
    obtain ⟨q, hq, h1⟩ := List.getElem_of_mem h
    exact ⟨q, by simpa using hq, by rw [← h1]; rfl⟩
  · rintro ⟨q, hq, h1⟩
    rw [← h1]
    exact List.getElem_mem (l := b.data.toList) (n := q) (by simpa using hq)
theorem OwnS.snoc {e : TypeId} {w : World} {lo hi : Nat} {v : Value} {xs : List ByteArray} {x : ByteArray} (h : Own e w lo hi v (xs.map Value.string ++ [.string x])) (hx : ∀ y ∈ xs, y.size ≤ maxLen) (h1 : x.size ≤ maxLen) : OwnS e w lo hi v (xs ++ [x]) :=
  ⟨by rw [List.map_append]; exact h, fun y hy => by rcases List.mem_append.1 hy with h | h; exact hx y h; simp at h; subst h; exact h1⟩
theorem OwnS.lit0 (e : TypeId) (w : World) (lo : Nat) (hlo : lo ≤ w.heap.size) : OwnS e (w.alloc (.cells #[] e)) lo (w.alloc (.cells #[] e)).heap.size (.slice (some ⟨w.heap.size, 0, none⟩) 0 0) [] := ⟨Own.lit0 e w lo hlo, by simp⟩

set_option maxHeartbeats 1600000 in
set_option maxRecDepth 100000 in
theorem implSplitAny (s b : ByteArray) (w : World) (hs : s.size ≤ maxLen) (hs2 : s.size ≤ 1048576) (hb0 : b.size ≤ maxLen) (hb2 : b.size ≤ 1048576) :
    Calls Tryd.prog 9 #[.string s, .string b] w (GivesSs w (splL s b)) := by
  have hS := Lib.hid hs
  clear hs hb0
  have HX : Hid (∀ (i : Nat) (hi : i < s.size) (W : World), Calls Tryd.prog 20 #[.string b, .int .u8 (s[i].toNat : Int)] W fun e w' => ∃ z : Int, e = .returned (.int .i64 z) ∧ decide (z ≥ 0) = hitB s b i ∧ W = w') := by
    intro i hi W
    refine (Tryd.strings_IndexByte b (s[i].toNat : Int) W).mono fun e w' ⟨h1, h2⟩ => ⟨_, h1, ?_, h2.symm⟩
    have e : s.data.toList.getD i 0 = s[i] := by
      rw [List.getD_eq_getElem?_getD, List.getElem?_eq_getElem (by simpa using hi)]; rfl
    unfold hitB
    rw [e, Lib.contains_iff_indexByte]
    have e2 : ((s[i].toNat : Int)).toNat.toUInt8 = s[i] := by simp
    rw [e2]
  go_enter Tryd.func9, Tryd.ntmps9
  go_wp2
  go_loopw [5, 6, 11] (fun o f i wr => ∃ k fr : Nat, k ≤ s.size ∧ i = .int .i64 k ∧ f = .int .i64 fr ∧ fr ≤ k ∧ Hid ((spl s b k).2 = fr) ∧ Hid (OwnS tStr wr w.heap.size wr.heap.size o (spl s b k).1) ∧ Below w.heap.size w wr) (fun _ _ i _ => s.size - (intOf i).toNat)
  case atStart => exact ⟨0, 0, Nat.zero_le _, rfl, rfl, Nat.le_refl _, rfl, OwnS.lit0 9 w w.heap.size (Nat.le_refl _), (Below.refl _ _).alloc (Nat.le_refl _) _⟩
  case round =>
    obtain ⟨k, fr, hk, rfl, rfl, hfr, HF, HO, hb⟩ := hrel
    have hsz := hb.size
    by_cases hlt : k < s.size
    · have HXk := Lib.hid (HX.out k hlt)
      cases hh : hitB s b k
      · have HN := Lib.hid (spl_no hh)
        have HH := Lib.hid hh; clear hh
        have R : Hid (OwnS tStr wr w.heap.size wr.heap.size u5 (spl s b (k + 1)).1) := by rw [HN.out]; exact HO
        have R2 : Hid ((spl s b (k + 1)).2 = fr) := by rw [HN.out]; exact HF
        go_wp2_with fail
        refine Calls.mono (HXk.out wr) ?_; rintro e w2 ⟨z, rfl, hz, rfl⟩
        rw [HH.out] at hz
        go_wp2
        go_roundw
        case rel => exact ⟨k + 1, fr, by omega, by go_num, rfl, by omega, R2, R, hb⟩
        case measure => simp [intOf]; omega
      · have HN := Lib.hid (spl_yes hh)
        have HH := Lib.hid hh; clear hh
        go_wp2_with fail
        refine Calls.mono (HXk.out wr) ?_; rintro e w2 ⟨z, rfl, hz, rfl⟩
        rw [HH.out] at hz
        have hown := HO.out
        have hl := (spl_le s b k).2.1
        go_wp2_with (at_builtin; refine wpList_append1_at _ rfl _ _ 29 rfl 9 (.string ByteArray.empty) 16 Tryd.underlying29 infoStr (by decide) rfl w.heap.size wr.heap.size _ _ rfl (hown.1.alloc _) ⟨wr.heap.size, 0, none⟩ 1 (.string (s.extract fr k)) rfl (cell_alloc0 _ _ _) rfl ?_ ?_ ?_)
        · simp; omega
        · simp; omega
        · intro v' w3 hown' hgr hat
          have hx9 : (s.extract fr k).size ≤ maxLen := by simp; have := hS.out; omega
          have R1 := OwnS.snoc hown' hown.2 hx9
          have R : Hid (OwnS tStr w3 w.heap.size w3.heap.size v' (spl s b (k + 1)).1) := by rw [HN.out, HF.out]; exact R1
          have R3 := below_app (hb.alloc hsz _) (hown.1.alloc _) hgr (Nat.le_refl _) (by simp; omega)
          have R2 : Hid ((spl s b (k + 1)).2 = k + 1) := by rw [HN.out]; exact rfl
          clear hown hown' hgr hat R1 hx9
          go_wp2
          go_roundw
          case rel => exact ⟨k + 1, k + 1, by omega, by go_num, by go_num, Nat.le_refl _, R2, R, R3⟩
          case measure => simp [intOf]; omega
    · obtain rfl : k = s.size := by omega
      have hown := HO.out
      have hl := (spl_le s b s.size).2.1
      go_wp2_with (at_builtin; refine wpList_append1_at _ rfl _ _ 29 rfl 9 (.string ByteArray.empty) 16 Tryd.underlying29 infoStr (by decide) rfl w.heap.size wr.heap.size _ _ rfl (hown.1.alloc _) ⟨wr.heap.size, 0, none⟩ 1 (.string (s.extract fr s.size)) rfl (cell_alloc0 _ _ _) rfl ?_ ?_ ?_)
      · simp; omega
      · simp; omega
      · intro v' w3 hown' hgr hat
        have hx9 : (s.extract fr s.size).size ≤ maxLen := by simp; have := hS.out; omega
        have R1 := OwnS.snoc hown' hown.2 hx9
        have R : Hid (OwnS tStr w3 w.heap.size w3.heap.size v' (splL s b)) := by unfold splL; rw [HF.out]; exact R1
        have R3 := below_app (hb.alloc hsz _) (hown.1.alloc _) hgr (Nat.le_refl _) (by simp; omega)
        clear hown hown' hgr hat R1 hx9
        go_wp2
        go_ret
        exact ⟨_, rfl, R, R3⟩
end Go.Proofs.YtifdjdhnfnincaaDoor
