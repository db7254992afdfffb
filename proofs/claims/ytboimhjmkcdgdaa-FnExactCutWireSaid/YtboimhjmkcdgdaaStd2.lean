/- Contracts: StandardOf, the program's and the reference's. -/
import Derived.Test.YtboimhjmkcdgdaaNb
import Derived.Test.YtboimhjmkcdgdaaOwn
import Derived.Test.YtboimhjmkcdgdaaAppNet
import Derived.Test.YtboimhjmkcdgdaaApp
import Derived.Test.YtboimhjmkcdgdaaAllMasks
import Derived.Test.YtboimhjmkcdgdaaMark
import Derived.BigRegion
import Derived.Deep.Cut
namespace Go.Proofs.Ytboimhjmkcdgdaa
open Go.RowKit
set_option linter.unusedVariables false

/-- A network, a list and a truth value come back, all of it fresh: the list's memory lies ahead of the network's. -/
def GivesStd (w : World) (n : Int) (rows : List (List Int)) (xs : List Int) (b : Bool) (en : Ending) (w' : World) : Prop :=
  ∃ u t mid, en = .returned (.tuple #[.agg #[.int .i64 n, u], t, .bool b]) ∧ OwnI tInt w' w.heap.size mid t xs ∧ OwnSS tInt tInts w' mid w'.heap.size u rows ∧ w.heap.size ≤ mid ∧ mid ≤ w'.heap.size ∧ Below w.heap.size w w'
def StP (n : Int) (rows : List (List Int)) : Prop := NetP n rows ∧ True
noncomputable def nbI (p : Prop) (xs : List Int) : List Int := bif tf p then xs else []
theorem nbI_yes {p : Prop} {xs : List Int} (h : p) : nbI p xs = xs := by unfold nbI; rw [tf_yes h]; rfl
theorem nbI_no {p : Prop} {xs : List Int} (h : ¬ p) : nbI p xs = [] := by unfold nbI; rw [tf_no h]; rfl
def idL (n : Nat) : List Int := (List.range n).map fun (i : Nat) => (i : Int)
theorem idL_length (n : Nat) : (idL n).length = n := by simp [idL]
theorem idL_next (n : Nat) : idL (n + 1) = idL n ++ [(n : Int)] := by simp [idL, List.range_succ]
theorem idL_in (n : Nat) (h : n ≤ 8) : ∀ x ∈ idL n, In64 x := by
  intro x hx
  simp [idL] at hx
  obtain ⟨i, hi, rfl⟩ := hx
  exact WalkArith.wf_i64 (by omega)
/-- The first k rows of the standard form. -/
def stR (ps : List (Nat × Nat)) (xs : List Int) : Nat → List (List Int)
  | 0 => []
  | k + 1 => stR ps xs k ++ [[min ((apTo ps xs k).getD (ps.getD k (0, 0)).1 0) ((apTo ps xs k).getD (ps.getD k (0, 0)).2 0), max ((apTo ps xs k).getD (ps.getD k (0, 0)).1 0) ((apTo ps xs k).getD (ps.getD k (0, 0)).2 0)]]
theorem stR_length (ps : List (Nat × Nat)) (xs : List Int) (k : Nat) : (stR ps xs k).length = k := by
  induction k with
  | zero => rfl
  | succ k ih => simp [stR, ih]
theorem stR_two (ps : List (Nat × Nat)) (xs : List Int) (k : Nat) : ∀ r ∈ stR ps xs k, r.length ≤ 2 := by
  induction k with
  | zero => intro r hr; cases hr
  | succ k ih =>
    intro r hr
    rcases List.mem_append.1 hr with h | h
    · exact ih r h
    · simp only [List.mem_singleton] at h; subst h; simp
def stdR (n : Int) (rows : List (List Int)) : List (List Int) := stR (pairsOf rows) (idL n.toNat) rows.length
def stdI (n : Int) (rows : List (List Int)) : List Int := apTo (pairsOf rows) (idL n.toNat) rows.length
theorem std_le (n : Int) (rows : List (List Int)) : sumLen (nbR (StP n rows) (stdR n rows)) ≤ 120 := nbR_le fun h => by
  have h1 := sumLen_le2 (stdR n rows) (stR_two _ _ _)
  have h2 := h.1.2.1
  rw [stdR, stR_length] at h1
  rw [stdR]; omega
theorem std_le2 (n : Int) (rows : List (List Int)) : (nbI (StP n rows) (stdI n rows)).length ≤ 8 := by
  rcases Classical.em (StP n rows) with h | h
  · rw [nbI_yes h, stdI, apTo_length, idL_length]
    have := h.1.1
    unfold InP at this
    omega
  · rw [nbI_no h]; simp
theorem Fills.lower {e : TypeId} {base base' g cap n : Nat} {wr : World} {ys : List Int} (F : Fills e base g cap wr n ys) (h : base' ≤ base) : Fills e base' g cap wr n ys := by
  refine ⟨F.1, F.2.1, ?_⟩
  rcases F.2.2 with hx | ⟨g', cap', cur, hx, hb, r⟩
  · exact .inl hx
  · exact .inr ⟨g', cap', cur, hx, by omega, r⟩
theorem NetIn.low {B lo : Nat} {n : Int} {rows : List (List Int)} {wr : World} {u : Value} (h : NetIn B lo n rows wr u) {g k : Nat} (hg : g < B) (x : Value) : NetIn B lo n rows (wr.setCell ⟨g, k, none⟩ x) u := by
  obtain ⟨h1, h2, h3, h4, h5, h6⟩ := h
  refine ⟨?_, ?_, ?_, ?_, h5, ?_⟩
  · rw [size_setCell]; exact h1.set (by omega) _
  · rw [World.cell?_setCell_other _ _ _ _ (by first | (simp; done) | (simp; omega))]; exact h2
  · rw [World.cell?_setCell_other _ _ _ _ (by first | (simp; done) | (simp; omega))]; exact h3
  · rw [World.frozen?_setCell]; exact h4
  · rw [size_setCell]; exact h6
theorem ResC.low {R : Nat} {W : World} (h : ResC R W) {g k : Nat} (hg : g ≠ R) (x : Value) : ResC R (W.setCell ⟨g, k, none⟩ x) := by
  obtain ⟨h1, h2, h3, h4, h5⟩ := h
  refine ⟨?_, ?_, ?_, ?_, ?_⟩
  · rw [World.cell?_setCell_other _ _ _ _ (by first | (simp; done) | (simp; omega))]; exact h1
  · rw [World.cell?_setCell_other _ _ _ _ (by first | (simp; done) | (simp; omega))]; exact h2
  · rw [World.frozen?_setCell]; exact h3
  · rw [World.frozen?_setCell]; exact h4
  · rw [size_setCell]; exact h5
theorem NetIn.drew {B lo : Nat} {n : Int} {rows : List (List Int)} {wr : World} {u : Value} (h : NetIn B lo n rows wr u) : NetIn B lo n rows wr.drew u := h.below ((Below.refl _ wr).drew)

theorem news_two0 (w : World) (o1 : Obj) (v : Value) (t : TypeId) : ∀ (j : Nat) (u : Value), [v][j]? = some u → (((w.alloc o1).alloc (.cells #[v] t)).cell? ((⟨w.heap.size + 1, 0, none⟩ : Addr).add j) = some u) := by
  have h := heap_alloc_new (w.alloc o1) (.cells #[v] t)
  rw [World.size_alloc] at h
  exact World.news_of_block (w := ((w.alloc o1).alloc (.cells #[v] t))) h
theorem below_two0 (wr : World) (o1 o2 : Obj) : Below wr.heap.size wr ((wr.alloc o1).alloc o2) := (((Below.refl _ wr).alloc (Nat.le_refl _) o1).alloc (by simp) o2)
theorem pair_two0 (wr : World) (a b : Int) (ha : In64 a) (hb : In64 b) (o2 : Obj) : OwnI tInt ((wr.alloc (.cells #[.int .i64 a, .int .i64 b] tInt)).alloc o2) wr.heap.size ((wr.alloc (.cells #[.int .i64 a, .int .i64 b] tInt)).alloc o2).heap.size (.slice (some ⟨wr.heap.size, 0, none⟩) 2 2) [a, b] :=
  ((Fills.lit tInt wr wr.heap.size [a, b] #[.int .i64 a, .int .i64 b] rfl (Nat.le_refl _) (by simp [maxLen])).alloc o2).own (by simp; omega) (by intro x hx; simp at hx; rcases hx with rfl | rfl <;> assumption)
theorem Fills.keptX {e : TypeId} {base g cap n B lo : Nat} {W w' : World} {ys : List Int} (F : Fills e base g cap W n ys) (h : Kept B lo W w') (h1 : g ≠ B) (h2 : g < lo) : Fills e base g cap w' n ys :=
  ⟨F.1, ownsRow_block F.2 fun g' hg' => by simp [Value.ownBlock] at hg'; subst hg'; exact h.block h1 h2⟩
theorem ResC.keptX {R B lo : Nat} {W w' : World} (h : ResC R W) (hk : Kept B lo W w') (h1 : R ≠ B) (h2 : R < lo) : ResC R w' := by
  obtain ⟨d0, d1, f0, f1, d2⟩ := h
  have hs := hk.1.size
  exact ⟨(hk.cell (a := ⟨R, 0, none⟩) h1 h2).trans d0, (hk.cell (a := ⟨R, 1, none⟩) h1 h2).trans d1, (hk.frozen (a := ⟨R, 0, none⟩) h1 h2).trans f0, (hk.frozen (a := ⟨R, 1, none⟩) h1 h2).trans f1, by omega⟩

end Go.Proofs.Ytboimhjmkcdgdaa
