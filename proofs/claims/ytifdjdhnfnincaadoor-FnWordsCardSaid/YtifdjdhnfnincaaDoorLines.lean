/- Contracts: SplitLines, the program's and the reference's. -/
import Derived.Test.YtifdjdhnfnincaaDoorSplP
import Derived.Test.YtifdjdhnfnincaaDoorText1
import Derived.Test.YtifdjdhnfnincaaDoorShelfSpl2
namespace Go.Proofs.YtifdjdhnfnincaaDoor
open Go.RowKit
set_option linter.unusedVariables false

/-- The lines: the last piece is left out where it is empty. -/
def slL (s : ByteArray) : List ByteArray := if (spl s ⟨#[10]⟩ s.size).2 = s.size then (spl s ⟨#[10]⟩ s.size).1 else splL s ⟨#[10]⟩
theorem slL_le (s : ByteArray) : (slL s).length ≤ s.size + 1 := by
  unfold slL
  have h1 := (spl_le s ⟨#[10]⟩ s.size).2.1
  have h2 := splL_len s ⟨#[10]⟩
  split <;> omega
theorem OwnS.init {e : TypeId} {w : World} {lo hi g cap : Nat} {xs : List ByteArray} {x : ByteArray} {n : Nat} (h : OwnS e w lo hi (.slice (some ⟨g, 0, none⟩) n cap) (xs ++ [x])) (hn : n = xs.length + 1) : OwnS e w lo hi (.slice (some ⟨g, 0, none⟩) xs.length cap) xs := by
  obtain ⟨⟨h1, h2⟩, h3⟩ := h
  refine ⟨⟨⟨by simp, ?_⟩, h2⟩, fun y hy => h3 y (by simp [hy])⟩
  rcases h1.2 with ⟨hv, _⟩ | ⟨g', cap', cur, hv, hb, hg, hc, hm, hs, ht⟩
  · cases hv
  · simp only [Value.slice.injEq, Option.some.injEq, Addr.mk.injEq] at hv
    obtain ⟨⟨rfl, -⟩, hk, rfl⟩ := hv
    have hn2 : (List.map Value.string (xs ++ [x])).length = xs.length + 1 := by simp
    refine .inr ⟨g, cap, cur, by simp, hb, hg, by simp; omega, hm, hs, ?_⟩
    have := congrArg (List.take xs.length) ht
    simp only [List.take_take, List.map_append, List.length_map, List.length_append] at this
    simp at this ⊢
    exact this
theorem OwnS.addr {e : TypeId} {w : World} {lo hi : Nat} {v : Value} {xs : List ByteArray} (h : OwnS e w lo hi v xs) (hn : 0 < xs.length) : ∃ g cap, v = .slice (some ⟨g, 0, none⟩) xs.length cap ∧ xs.length ≤ cap ∧ cap ≤ maxLen ∧ ∀ j (hj : j < xs.length), w.cell? ⟨g, j, none⟩ = some (.string xs[j]) := by
  rcases h.1.cases with ⟨_, hx⟩ | ⟨g, cap, hv, hc, hm, _, _, _, _, hcell, _⟩
  · have := congrArg List.length hx
    simp at this
    rw [this] at hn; cases hn
  · rw [List.length_map] at hv hc
    exact ⟨g, cap, hv, hc, hm, fun j hj => by have := hcell j (by simpa using hj); simpa using this⟩
theorem last_piece (s : ByteArray) (n : Nat) (hn : (splL s ⟨#[10]⟩).length = n + 1) (h : n < (splL s ⟨#[10]⟩).length) : (splL s ⟨#[10]⟩)[n] = s.extract (spl s ⟨#[10]⟩ s.size).2 s.size ∧ (spl s ⟨#[10]⟩ s.size).1.length = n := by
  have hl : (spl s ⟨#[10]⟩ s.size).1.length = n := by unfold splL at hn; simp at hn; exact hn
  refine ⟨?_, hl⟩
  have e : splL s ⟨#[10]⟩ = (spl s ⟨#[10]⟩ s.size).1 ++ [s.extract (spl s ⟨#[10]⟩ s.size).2 s.size] := rfl
  have h2 : (splL s ⟨#[10]⟩)[n]? = some (s.extract (spl s ⟨#[10]⟩ s.size).2 s.size) := by
    rw [e, List.getElem?_append_right (by omega), hl]; simp
  rw [List.getElem?_eq_getElem h] at h2
  exact Option.some.inj h2
theorem extract_isEmpty (s : ByteArray) (f : Nat) (hf : f ≤ s.size) : (s.extract f s.size).toList.isEmpty = decide (f = s.size) := by
  have h := nonempty_iff (s.extract f s.size)
  rw [ByteArray.size_extract] at h
  by_cases e : f = s.size
  · have : decide (0 < min s.size s.size - f) = false := by simp; omega
    rw [this] at h
    simp [e] at h ⊢
    try exact h
  · have : decide (0 < min s.size s.size - f) = true := by simp; omega
    rw [this] at h
    simp [e] at h ⊢
    try exact h

set_option maxHeartbeats 800000 in
set_option maxRecDepth 100000 in
theorem implSplitLines (s : ByteArray) (w : World) (hs : s.size ≤ maxLen) (hs2 : s.size ≤ 1048576) (hsh : w.ShapedOpen Tryd.prog) :
    Calls Tryd.prog 11 #[.string s] w (GivesSs w (slL s)) := by
  have C : Hid (Calls Tryd.prog 21 #[.string s, .string ⟨#[10]⟩] w (GivesSs w (splL s ⟨#[10]⟩))) := by
    refine (Tryd.strings_Split_shaped s ⟨#[10]⟩ w hsh (by omega) (by decide)).mono ?_
    rintro e w' ⟨rfl, rfl⟩
    rw [split_eq]
    have hl := count_len s
    have hsz := splL_sz s ⟨#[10]⟩ hs
    have hle := splL_len s ⟨#[10]⟩
    refine ⟨_, rfl, ⟨⟨⟨by simp, .inr ⟨w.heap.size, Lib.countB s ⟨#[10]⟩ + 1, _, by simp [hl], Nat.le_refl _, heap_alloc_new w _, by simp [hl], by unfold maxLen; omega, by simp [hl], by simp [hl]; exact List.take_of_length_le (by simp [hl])⟩⟩, fun g hg => by simp [Value.ownBlock] at hg; simp; omega⟩, hsz⟩, (Below.refl _ _).alloc (Nat.le_refl _) _⟩
  clear hs hs2 hsh
  go_enter Tryd.func11, Tryd.ntmps11
  go_wp2_with fail
  refine C.out.mono ?_; rintro e w1 ⟨u, rfl, R, b1⟩
  obtain ⟨n, hn⟩ : ∃ n, (splL s ⟨#[10]⟩).length = n + 1 := ⟨(spl s ⟨#[10]⟩ s.size).1.length, by simp [splL]⟩
  obtain ⟨g, cap, rfl, hc, hm, hcell⟩ := R.addr (by omega)
  have c1 := hcell n (by omega)
  obtain ⟨e1, e2⟩ := last_piece s n hn (by omega)
  rw [e1] at c1
  have hfl := (spl_le s ⟨#[10]⟩ s.size).1
  have he := extract_isEmpty s _ hfl
  rw [hn] at hc ⊢
  unfold maxLen at hm
  have HR := Lib.hid R
  rw [hn] at HR
  have hdd : (splL s ⟨#[10]⟩) = (spl s ⟨#[10]⟩ s.size).1 ++ [s.extract (spl s ⟨#[10]⟩ s.size).2 s.size] := rfl
  by_cases h : (spl s ⟨#[10]⟩ s.size).2 = s.size
  · have HE : Hid (slL s = (spl s ⟨#[10]⟩ s.size).1) := by show _ = _; unfold slL; rw [if_pos h]
    rw [decide_eq_true h] at he
    rw [hdd] at HR
    have R2 := HR.out.init (by omega)
    rw [e2] at R2
    have HR2 := Lib.hid R2
    clear hcell C h e1 hn R hdd HR e2 R2 hfl
    generalize (s.extract (spl s ⟨#[10]⟩ s.size).2 s.size) = q at *
    go_wp2
    go_ret
    exact ⟨_, rfl, by rw [HE.out]; exact HR2.out, b1⟩
  · have HE : Hid (slL s = splL s ⟨#[10]⟩) := by show _ = _; unfold slL; rw [if_neg h]
    rw [decide_eq_false h] at he
    clear hcell C h e1 hn R hdd e2 hfl
    generalize (s.extract (spl s ⟨#[10]⟩ s.size).2 s.size) = q at *
    go_wp2
    go_ret
    exact ⟨_, rfl, by rw [HE.out]; exact HR.out, b1⟩
end Go.Proofs.YtifdjdhnfnincaaDoor
