/- Contracts: slices.Reverse and slices.Delete of a slice of rows of the call's own. -/
import Derived.Test.YtelilimkcboioaaGridApp
import Derived.Test.YtelilimkcboioaaLaid
import Derived.Test.YtelilimkcboioaaSlice
import Derived.Lib.OwnBridge
import Derived.Shelf.SlicesE.Reverse
import Derived.Shelf.SlicesE.Delete
namespace Go.Proofs.Ytelilimkcboioaa
open Go.RowKit Go.Lib Go.Sort
set_option linter.unusedVariables false

/-- A value of one cell. -/
abbrev OC := { v : Value // v.oneCell' = true }
instance : Inhabited OC := ⟨⟨.slice none 0 0, rfl⟩⟩
def ocv (x : OC) : Value := x.val
theorem ocv_one : OneCell ocv := fun x => x.property
theorem oc_all (vs : List Value) (h : ∀ v ∈ vs, v.oneCell' = true) : ∃ ts : List OC, ts.map ocv = vs := by
  induction vs with
  | nil => exact ⟨[], rfl⟩
  | cons v l ih =>
    obtain ⟨ts, hts⟩ := ih fun x hx => h x (List.mem_cons_of_mem _ hx)
    exact ⟨⟨v, h v (List.mem_cons_self ..)⟩ :: ts, by simp [ocv]; exact hts⟩

section
variable {e : TypeId} {w w' : World} {lo hi : Nat} {vs vs' : List Value} {rows rows' : List (List Int)}
theorem RowsOwn.pick (h : RowsOwn e w lo hi vs rows) (f : Nat → Nat) (hl : vs'.length = rows'.length) (hf : ∀ i, i < vs'.length → f i < vs.length ∧ vs'[i]? = vs[f i]? ∧ rows'[i]? = rows[f i]?)
    (hinj : ∀ i j, i < vs'.length → j < vs'.length → f i = f j → i = j) : RowsOwn e w lo hi vs' rows' := by
  have hv : ∀ i (h1 : i < vs'.length), ∃ h2 : f i < vs.length, vs'[i] = vs[f i] := fun i h1 => by
    obtain ⟨h2, h3, _⟩ := hf i h1
    rw [List.getElem?_eq_getElem h1, List.getElem?_eq_getElem h2] at h3
    exact ⟨h2, by simpa using h3⟩
  refine ⟨hl, fun i h1 h2 => ?_, fun i j h1 h2 g hne hg => ?_⟩
  · obtain ⟨a1, a2⟩ := hv i h1
    obtain ⟨_, _, h3⟩ := hf i h1
    have a3 : f i < rows.length := by rw [← h.1]; exact a1
    rw [List.getElem?_eq_getElem h2, List.getElem?_eq_getElem a3] at h3
    have h4 : rows'[i] = rows[f i] := by simpa using h3
    rw [a2, h4]; exact h.2.1 _ a1 a3
  · obtain ⟨a1, a2⟩ := hv i h1
    obtain ⟨b1, b2⟩ := hv j h2
    rw [a2] at hg; rw [b2]
    exact h.2.2 _ _ a1 b1 g (fun e => hne (hinj i j h1 h2 e)) hg
theorem RowsOwn.reverse (h : RowsOwn e w lo hi vs rows) : RowsOwn e w lo hi vs.reverse rows.reverse := by
  have hl := h.1
  refine h.pick (fun i => vs.length - 1 - i) (by simp [hl]) (fun i h1 => ?_) (fun i j h1 h2 e => ?_)
  · rw [List.length_reverse] at h1
    exact ⟨by omega, List.getElem?_reverse h1, by rw [List.getElem?_reverse (by omega), hl]⟩
  · rw [List.length_reverse] at h1 h2; omega
theorem RowsOwn.erase (h : RowsOwn e w lo hi vs rows) (j : Nat) (hj : j < vs.length) : RowsOwn e w lo hi (vs.eraseIdx j) (rows.eraseIdx j) := by
  have hl := h.1
  have l1 : (vs.eraseIdx j).length = vs.length - 1 := by rw [List.length_eraseIdx, if_pos hj]
  refine h.pick (fun i => if i < j then i else i + 1) (by rw [l1, List.length_eraseIdx, if_pos (by omega)]; omega) (fun i h1 => ?_) (fun i k h1 h2 e => ?_)
  · rw [l1] at h1
    refine ⟨by split <;> omega, ?_, ?_⟩
    · rw [List.getElem?_eraseIdx]; split <;> rfl
    · rw [List.getElem?_eraseIdx]; split <;> rfl
  · split at e <;> split at e <;> omega
theorem RowsOwn.one (h : RowsOwn e w lo hi vs rows) : ∀ v ∈ vs, v.oneCell' = true := fun v hv => by
  obtain ⟨i, hi', rfl⟩ := List.getElem_of_mem hv
  obtain ⟨a, l, c, e⟩ := (h.2.1 i hi' (by rw [← h.1]; exact hi')).shape
  rw [e]; rfl
end

theorem heap_putRow {w : World} {g q : Nat} {d : Array OC} (k : Nat) (h : k ≠ g) : (putRow ocv (Sort.ahead w q) g 0 d).heap[k]? = w.heap[k]? := by
  simp [putRow, mapBlock, Sort.ahead, Array.getElem?_modify, Ne.symm h]

theorem OwnSS.putRow {w : World} {lo hi g cap q k : Nat} {vs : List Value} {rows : List (List Int)} {ts ys : List OC} (hO : Own tInts w lo hi (.slice (some ⟨g, 0, none⟩) vs.length cap) vs) (hts : ts.map ocv = vs) (hy : ys.length = vs.length) (hk : k ≤ vs.length)
    (hR : RowsOwn tInt w lo hi ((ys.take k).map ocv) rows) :
    OwnSS tInt tInts (putRow ocv (Sort.ahead w q) g 0 ys.toArray) lo hi (.slice (some ⟨g, 0, none⟩) k cap) rows ∧ Chg lo hi w (putRow ocv (Sort.ahead w q) g 0 ys.toArray) := by
  have hg := hO.lt (g := g) rfl
  refine ⟨⟨(ys.take k).map ocv, ⟨?_, fun g' hg' => ?_⟩, hR.map fun u xs ho => ⟨⟨ownsRow_block ho.1.1 fun g1 hg1 => heap_putRow g1 fun e => own_ne ho.1 hO (by decide) hg1 (by rw [e]; rfl), ho.1.2⟩, ho.2⟩⟩, ⟨rfl, rfl, rfl, by simp [Sort.ahead], fun k _ hk => heap_putRow k (by omega)⟩⟩
  · have h := hO.1
    rw [← hts] at h
    have hl : ts.length = vs.length := by rw [← hts]; simp
    have := ownsRow_putRow (q := q) (k := k) (ys := ys) (by simpa [hl] using h) (by omega) hk
    rw [show ((ys.take k).map ocv).length = k by simp; omega]
    exact this
  · simp [Value.ownBlock] at hg'; omega

set_option maxRecDepth 100000 in
theorem revRows (lo hi : Nat) (v : Value) (rows : List (List Int)) (w : World) (h : OwnSS tInt tInts w lo hi v rows) :
    Calls Try.prog 55 #[v] w fun e w' => e = .returned (.tuple #[]) ∧ OwnSS tInt tInts w' lo hi v rows.reverse ∧ Chg lo hi w w' := by
  obtain ⟨vs, hO, hR⟩ := h
  rcases hO.cases with ⟨rfl, rfl⟩ | ⟨g, cap, rfl, h1, h2, h3, h4, h5, hown, _, _⟩
  · have := hR.1
    have hr : rows = [] := List.eq_nil_of_length_eq_zero this.symm
    subst hr
    exact (AnyE.slices_Reverse_empty Try.revRows none 0 w).mono fun e w' ⟨a, b⟩ => ⟨a, by rw [b]; exact ⟨[], hO, hR⟩, by rw [b]; exact Chg.refl _ _ _⟩
  · obtain ⟨ts, hts⟩ := oc_all vs hR.one
    have hl : ts.length = vs.length := by rw [← hts]; simp
    obtain ⟨g', cap', e, _, _, _, _, _, HH⟩ := holds_of_ownsRow (enc := ocv) (zs := ts) (by rw [hts]; exact hown) (by intro e; cases e)
    cases e
    have C := AnyE.slices_Reverse Try.revRows ocv ocv_one g 0 cap ts w HH (by unfold maxLen at h2; omega)
    rw [hl] at C
    refine Calls.mono C fun e w' ⟨a, n, b⟩ => ?_
    subst b
    refine ⟨a, OwnSS.putRow (k := vs.length) hO hts (by simp [hl]) (Nat.le_refl _) ?_⟩
    rw [List.take_of_length_le (by simp [hl]), List.map_reverse, hts]
    exact hR.reverse
theorem zero_ocv (w : World) : (zeroValue (Try.delRows_ren.t 23)).run Try.prog w = .ok (ocv ⟨.slice none 0 0, rfl⟩) w := Try.zeroValue38 w
set_option maxRecDepth 100000 in
theorem delRows (lo hi : Nat) (v : Value) (rows : List (List Int)) (j : Nat) (w : World) (h : OwnSS tInt tInts w lo hi v rows) (hj : j < rows.length) :
    Calls Try.prog 52 #[v, .int .i64 j, .int .i64 ((j : Int) + 1)] w fun e w' => ∃ u, e = .returned u ∧ OwnSS tInt tInts w' lo hi u (rows.eraseIdx j) ∧ Chg lo hi w w' := by
  obtain ⟨vs, hO, hR⟩ := h
  have hvl := hR.1
  rcases hO.cases with ⟨rfl, rfl⟩ | ⟨g, cap, rfl, h1, h2, h3, h4, h5, hown, _, _⟩
  · simp at hvl; omega
  · obtain ⟨ts, hts⟩ := oc_all vs hR.one
    have hl : ts.length = vs.length := by rw [← hts]; simp
    obtain ⟨g', cap', e, _, _, _, _, _, HH⟩ := holds_of_ownsRow (enc := ocv) (zs := ts) (by rw [hts]; exact hown) (by intro e; cases e)
    cases e
    obtain ⟨i0, hi0, hz0, hz1, hz2⟩ := info_parts infoInts
    have C := AnyE.slices_Delete Try.delRows ocv ocv_one ⟨.slice none 0 0, rfl⟩ zero_ocv i0 hi0 hz1 g 0 cap j (j + 1) ts.toArray w HH (by simp [hl]; exact h1) (by unfold maxLen at h2; omega) (by omega) (by simp; omega)
    have e1 : ts.toArray.size = vs.length := by simp [hl]
    rw [e1] at C
    have C' : Calls Try.prog 52 #[.slice (some ⟨g, 0, none⟩) vs.length cap, .int .i64 j, .int .i64 ((j : Int) + 1)] w _ := C
    refine C'.mono fun e w' hh => ?_
    obtain ⟨a, n, b⟩ := hh
    subst b
    refine ⟨_, a, OwnSS.putRow (k := vs.length - (j + 1 - j)) hO hts (by simp; omega) (by omega) ?_⟩
    have e2 : ((ts.take j ++ ts.drop (j + 1) ++ List.replicate (j + 1 - j) (⟨.slice none 0 0, rfl⟩ : OC)).take (vs.length - (j + 1 - j))).map ocv = vs.eraseIdx j := by
      rw [List.take_append_of_le_length (by simp; omega), List.take_of_length_le (by simp; omega), List.map_append, List.map_take, List.map_drop, hts, List.eraseIdx_eq_take_drop_succ]
    rw [e2]
    exact hR.erase j (by omega)
end Go.Proofs.Ytelilimkcboioaa
