/- Contracts: a list run through a valid network: l02Apply, apply, slices.Clone of a list. -/
import Derived.Test.YthcnmaapcniehaaNetOk
import Derived.Test.YthcnmaapcniehaaFill
import Derived.Test.YthcnmaapcniehaaApp
import Derived.Test.YthcnmaapcniehaaUp
import Derived.RegionTactic
import Derived.Lib.SliceRun
namespace Go.Proofs.Ythcnmaapcniehaa
open Go.RowKit
set_option linter.unusedVariables false

/-- append of a whole list to a row of the call's own. -/
theorem wpList_appendL {P : Program} (w : World) {ops : Array Oper} {rest : List Oper} {o : Oper} {a : Act} {Q : Exit → Act → World → Prop} (hgd : o.guard = none) (s x : Operand) (t : TypeId)
    (ho : o.op = .call { callee := .builtin .append, args := #[s, x], argTypes := #[t, t] })
    (e : TypeId) (ht : P.underlying t = some (.slice e)) (hinfo : (P.info? e).map (fun i => (i.zero, i.size, i.bytes)) = some (some (.int .i64 0), 1, 8))
    (lo hi : Nat) (v u : Value) (us xs : List Int) (hs : a.eval s = v) (hown : OwnI e w lo hi v us) (hx : a.eval x = u) (hu : Ints w u xs) (h0 : 0 < xs.length)
    (hlen : us.length + xs.length < 4294967296) (hlo : lo ≤ w.heap.size)
    (h : ∀ v' w', OwnI e w' lo w'.heap.size v' (us ++ xs) → w.grownBy w' v.ownBlock → (v'.ownBlock = v.ownBlock ∨ v'.ownBlock = some w.heap.size) → wpList P ops Q rest (a.put o.dst v') w') : wpList P ops Q (o :: rest) a w := by
  obtain ⟨i, hi', hz0, hz2, hz3⟩ := info_parts hinfo
  obtain ⟨ao, cap, rfl, hc1, hc2, hnil, hcell⟩ := hu
  obtain ⟨b, q, u0, rfl, _, _⟩ := hcell 0 h0
  have hl : us.length = (us.map (Value.int .i64)).length := by simp
  refine wpList_append_own_at w hgd s x t ho lo e i (.int .i64 0) 1 8 ht hi' hz0 hz2 hz3 rfl (by decide) v us.length (us.map (Value.int .i64)) hs (by have := hown.1.1; rwa [← hl] at this) ⟨b, q, none⟩ xs.length cap (xs.map (Value.int .i64)) hx (by simp) ?_ ?_ ?_ ?_ hlo ?_
  · intro j y hj
    rw [List.getElem?_map] at hj
    rcases Nat.lt_or_ge j xs.length with hj' | hj'
    · rw [List.getElem?_eq_getElem hj'] at hj
      simp at hj; subst hj
      obtain ⟨b', q', y', hb, hy, hyv, _⟩ := hcell j hj'
      simp only [Option.some.injEq, Addr.mk.injEq] at hb
      obtain ⟨rfl, rfl, -⟩ := hb
      rw [← hyv, Addr.add_lit]; exact hy
    · rw [List.getElem?_eq_none hj'] at hj; simp at hj
  · intro y hy; obtain ⟨z, _, rfl⟩ := List.mem_map.1 hy; rfl
  · unfold maxLen; omega
  · omega
  · intro v' w' hown' hg _ hat
    refine h v' w' ⟨⟨by rw [List.map_append]; simpa using hown', fun g hg' => (hown'.lt g hg').2⟩, fun y hy => ?_⟩ hg hat
    rcases List.mem_append.1 hy with hy | hy
    · exact hown.2 y hy
    · obtain ⟨j, hj, rfl⟩ := List.getElem_of_mem hy
      obtain ⟨_, _, _, _, _, _, hw⟩ := hcell j hj
      exact hw

def apStep (l : List Int) (p : Nat × Nat) : List Int := (l.set p.1 (min (l.getD p.1 0) (l.getD p.2 0))).set p.2 (max (l.getD p.1 0) (l.getD p.2 0))
def apTo (ps : List (Nat × Nat)) (xs : List Int) (k : Nat) : List Int := (ps.take k).foldl apStep xs
theorem apTo_succ (ps : List (Nat × Nat)) (xs : List Int) (k : Nat) (h : k < ps.length) : apTo ps xs (k + 1) = apStep (apTo ps xs k) ps[k] := by
  unfold apTo; rw [List.take_succ_eq_append_getElem h, List.foldl_append]; rfl
theorem apTo_length (ps : List (Nat × Nat)) (xs : List Int) (k : Nat) : (apTo ps xs k).length = xs.length := by
  unfold apTo
  suffices H : ∀ (l : List (Nat × Nat)) (a : List Int), (l.foldl apStep a).length = a.length by rw [H]
  intro l
  induction l with
  | nil => intro a; rfl
  | cons x l ih => intro a; rw [List.foldl_cons, ih]; simp [apStep]
theorem in64_getD {a : List Int} (h : ∀ x ∈ a, In64 x) (i : Nat) : In64 (a.getD i 0) := by
  rcases Nat.lt_or_ge i a.length with hi | hi
  · rw [List.getD_eq_getElem?_getD, List.getElem?_eq_getElem hi]; exact h _ (List.getElem_mem hi)
  · rw [List.getD_eq_getElem?_getD, List.getElem?_eq_none hi]; exact WalkArith.wf_i64 (by simp)
theorem apTo_in (ps : List (Nat × Nat)) (xs : List Int) (h : ∀ x ∈ xs, In64 x) (k : Nat) : ∀ x ∈ apTo ps xs k, In64 x := by
  unfold apTo
  suffices H : ∀ (l : List (Nat × Nat)) (a : List Int), (∀ x ∈ a, In64 x) → ∀ x ∈ l.foldl apStep a, In64 x from H _ _ h
  intro l
  induction l with
  | nil => intro a ha; exact ha
  | cons p l ih =>
    intro a ha
    rw [List.foldl_cons]
    refine ih _ fun x hx => ?_
    have h1 := in64_getD ha p.1
    have h2 := in64_getD ha p.2
    rcases List.mem_or_eq_of_mem_set hx with hx | hx
    · rcases List.mem_or_eq_of_mem_set hx with hx | hx
      · exact ha x hx
      · subst hx; rcases Int.le_total (a.getD p.1 0) (a.getD p.2 0) with hh | hh
        · rwa [Int.min_eq_left hh]
        · rwa [Int.min_eq_right hh]
    · subst hx; rcases Int.le_total (a.getD p.1 0) (a.getD p.2 0) with hh | hh
      · rwa [Int.max_eq_right hh]
      · rwa [Int.max_eq_left hh]
/-- The values at the network's end. -/
def apL (ps : List (Nat × Nat)) (xs : List Int) : List Int := apTo ps xs ps.length
theorem apL_length (ps : List (Nat × Nat)) (xs : List Int) : (apL ps xs).length = xs.length := apTo_length ps xs _
theorem Ints.in64 {w : World} {v : Value} {xs : List Int} (h : Ints w v xs) : ∀ x ∈ xs, In64 x := by
  intro x hx
  obtain ⟨j, hj, rfl⟩ := List.getElem_of_mem hx
  obtain ⟨_, _, _, _, _, _, hcell⟩ := h
  obtain ⟨_, _, _, _, _, _, hw⟩ := hcell j hj
  exact hw
/-- A fresh row that is not empty, by its block. -/
theorem OwnI.fills {w : World} {lo hi : Nat} {v : Value} {xs : List Int} (h : OwnI tInt w lo hi v xs) (h0 : 0 < xs.length) : ∃ g cap, v = .slice (some ⟨g, 0, none⟩) xs.length cap ∧ xs.length ≤ cap ∧ cap ≤ maxLen ∧ lo ≤ g ∧ g < hi ∧ g < w.heap.size ∧ Fills tInt lo g cap w xs.length xs := by
  rcases h.1.cases with ⟨_, hx⟩ | ⟨g, cap, rfl, h1, h2, h3, h4, h5, hown, _⟩
  · have : xs = [] := List.map_eq_nil_iff.1 hx
    subst this; simp at h0
  · simp only [List.length_map] at h1 hown ⊢
    exact ⟨g, cap, rfl, h1, h2, h3, h4, h5, rfl, hown⟩

set_option maxRecDepth 100000 in
theorem cloneI (v : Value) (xs : List Int) (w : World) (h : Ints w v xs) (h0 : 0 < xs.length) (h1 : xs.length ≤ 1048576) :
    Calls Try.prog 23 #[v] w (GivesI w xs) := by
  have HI : Hid (∀ o, Ints (w.alloc o) v xs) := fun o => h.keep (Below.keeps ((Below.refl _ w).alloc (Nat.le_refl _) o))
  obtain ⟨ao, cap, hv, hc1, hc2, hnil, hcell⟩ := h
  obtain ⟨b, q, u0, hao, _, _⟩ := hcell 0 h0
  subst hao
  subst hv
  have he := fun W => Lib.run_eql_slice_nil (P := Try.prog) W 35 3 (some ⟨b, q, none⟩) xs.length cap 0 0 Try.underlying35
  clear hcell hnil
  go_enter Try.func23, Try.ntmps23
  go_wp2_with (at_builtin; refine wpList_appendL _ rfl _ _ 35 rfl 3 Try.underlying35 infoInt w.heap.size _ _ _ [] xs rfl (OwnI.lit0 3 w w.heap.size (Nat.le_refl _)) rfl (HI.out _) h0 (by simp; omega) (by simp) ?_)
  intro v' w' R1 hg hat
  have R2 := below_app ((Below.refl w.heap.size w).alloc (Nat.le_refl _) _) (OwnI.lit0 3 w w.heap.size (Nat.le_refl _)).1 hg (Nat.le_refl _) (by simp)
  clear hg hat
  go_wp2
  go_ret
  exact ⟨_, rfl, R1, R2⟩

end Go.Proofs.Ythcnmaapcniehaa
