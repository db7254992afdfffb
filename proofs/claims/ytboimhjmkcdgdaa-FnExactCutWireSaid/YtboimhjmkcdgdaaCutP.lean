/- What CutWire does, in plain words: the values' places, the special wire, the comparators that stay; the reference's lines are the program's places renamed. No program is named. -/
import Derived.Test.YtboimhjmkcdgdaaStdD
namespace Go.Proofs.Ytboimhjmkcdgdaa
open Go.RowKit
set_option linter.unusedVariables false

/-- The new name of value v where value c goes. -/
def cf (c : Nat) (v : Int) : Int := if v = c then -1 else if v < c then v else v - 1
def cg (c a : Nat) : Nat := if a < c then a else a - 1
theorem cf_c (c : Nat) : cf c (c : Int) = -1 := by unfold cf; rw [if_pos rfl]
theorem cf_ne {c a : Nat} (h : a ≠ c) : cf c (a : Int) = (cg c a : Nat) := by
  unfold cf cg
  rw [if_neg (by omega)]
  by_cases h1 : a < c
  · rw [if_pos (by omega), if_pos h1]
  · rw [if_neg (by omega), if_neg h1]; omega
theorem cg_inj {c a b : Nat} (ha : a ≠ c) (hb : b ≠ c) (h : cg c a = cg c b) : a = b := by
  unfold cg at h
  split at h <;> split at h <;> omega
theorem cg_lt {c a N : Nat} (ha : a ≠ c) (h : a < N) (hc : c < N) : cg c a < N - 1 := by unfold cg; split <;> omega

def cuTo (most : Bool) (p : Nat × Nat) : Nat := if most then p.2 else p.1
def cuIn (p : Nat × Nat) (s : List Int × Nat × List (Nat × Nat)) : List Int × Nat × List (Nat × Nat) := (s.1, s.2.1, s.2.2 ++ [((s.1.getD p.1 0).toNat, (s.1.getD p.2 0).toNat)])
/-- One comparator, as the program takes it. -/
def cuStep (most : Bool) (p : Nat × Nat) (s : List Int × Nat × List (Nat × Nat)) : List Int × Nat × List (Nat × Nat) :=
  if p.1 ≠ s.2.1 ∧ p.2 ≠ s.2.1 then cuIn p s
  else if cuTo most p ≠ s.2.1 then ((s.1.set p.1 (s.1.getD p.2 0)).set p.2 (s.1.getD p.1 0), cuTo most p, s.2.2) else s
/-- One comparator, as the reference takes it. -/
def cvStep (most : Bool) (p : Nat × Nat) (s : List Int × Nat × List (Nat × Nat)) : List Int × Nat × List (Nat × Nat) :=
  if p.1 ≠ s.2.1 ∧ p.2 ≠ s.2.1 then cuIn p s
  else if cuTo most p ≠ s.2.1 then ((s.1.set s.2.1 (s.1.getD (cuTo most p) 0)).set (cuTo most p) (-1), cuTo most p, s.2.2) else s
def cuSt (ps : List (Nat × Nat)) (c : Nat) (most : Bool) (xs : List Int) : Nat → List Int × Nat × List (Nat × Nat)
  | 0 => (xs, c, [])
  | k + 1 => cuStep most (ps.getD k (0, 0)) (cuSt ps c most xs k)
def cvSt (ps : List (Nat × Nat)) (c : Nat) (most : Bool) (xs : List Int) : Nat → List Int × Nat × List (Nat × Nat)
  | 0 => (xs, c, [])
  | k + 1 => cvStep most (ps.getD k (0, 0)) (cvSt ps c most xs k)

/-- The program's state: places of all values, the special wire holds value c. -/
structure CuOk (N c : Nat) (s : List Int × Nat × List (Nat × Nat)) : Prop where
  len : s.1.length = N
  sp : s.2.1 < N
  bd : ∀ j, j < N → 0 ≤ s.1.getD j 0 ∧ s.1.getD j 0 < N
  at' : ∀ j, j < N → (s.1.getD j 0 = c ↔ j = s.2.1)
  inj : ∀ i j, i < N → j < N → s.1.getD i 0 = s.1.getD j 0 → i = j
  kp : ∀ q ∈ s.2.2, q.1 < N ∧ q.2 < N ∧ q.1 ≠ c ∧ q.2 ≠ c
/-- The reference's state. -/
def cvOf (c : Nat) (s : List Int × Nat × List (Nat × Nat)) : List Int × Nat × List (Nat × Nat) := (s.1.map (cf c), s.2.1, s.2.2.map fun q => (cg c q.1, cg c q.2))

theorem getD_set_same (xs : List Int) (i : Nat) (x : Int) (h : i < xs.length) : (xs.set i x).getD i 0 = x := by
  rw [List.getD_eq_getElem?_getD, List.getElem?_set_self h]; rfl
theorem getD_set_other (xs : List Int) {i j : Nat} (x : Int) (h : i ≠ j) : (xs.set i x).getD j 0 = xs.getD j 0 := by
  rw [List.getD_eq_getElem?_getD, List.getElem?_set_ne h, ← List.getD_eq_getElem?_getD]
theorem getD_map (f : Int → Int) (xs : List Int) (j : Nat) (h : j < xs.length) : (xs.map f).getD j 0 = f (xs.getD j 0) := by
  rw [List.getD_eq_getElem?_getD, List.getD_eq_getElem?_getD, List.getElem?_map, List.getElem?_eq_getElem h]; rfl

/-- The swap of two places. -/
theorem swap_getD (xs : List Int) (i k : Nat) (hi : i < xs.length) (hk : k < xs.length) (hne : i ≠ k) (j : Nat) :
    ((xs.set i (xs.getD k 0)).set k (xs.getD i 0)).getD j 0 = if j = k then xs.getD i 0 else if j = i then xs.getD k 0 else xs.getD j 0 := by
  by_cases h1 : j = k
  · subst h1; rw [if_pos rfl, getD_set_same _ _ _ (by simpa using hk)]
  · rw [if_neg h1, getD_set_other _ _ (Ne.symm h1)]
    by_cases h2 : j = i
    · subst h2; rw [if_pos rfl, getD_set_same _ _ _ hi]
    · rw [if_neg h2, getD_set_other _ _ (Ne.symm h2)]

theorem cuTo_ways (most : Bool) (p : Nat × Nat) : cuTo most p = p.1 ∨ cuTo most p = p.2 := by unfold cuTo; cases most <;> simp

theorem cuStep_ok {N c : Nat} {s : List Int × Nat × List (Nat × Nat)} (h : CuOk N c s) (most : Bool) (p : Nat × Nat) (h1 : p.1 < N) (h2 : p.2 < N) (hne : p.1 ≠ p.2) : CuOk N c (cuStep most p s) := by
  unfold cuStep
  by_cases hs : p.1 ≠ s.2.1 ∧ p.2 ≠ s.2.1
  · rw [if_pos hs]
    refine ⟨h.len, h.sp, h.bd, h.at', h.inj, ?_⟩
    intro q hq
    rcases List.mem_append.1 hq with hq | hq
    · exact h.kp q hq
    · simp only [List.mem_singleton] at hq
      subst hq
      have b1 := h.bd _ h1
      have b2 := h.bd _ h2
      have e1 := h.at' _ h1
      have e2 := h.at' _ h2
      have n1 : ¬ s.1.getD p.1 0 = c := fun e => hs.1 (e1.1 e)
      have n2 : ¬ s.1.getD p.2 0 = c := fun e => hs.2 (e2.1 e)
      show _ < N ∧ _ < N ∧ _ ≠ c ∧ _ ≠ c
      refine ⟨?_, ?_, ?_, ?_⟩ <;> omega
  · rw [if_neg hs]
    by_cases ht : cuTo most p ≠ s.2.1
    · rw [if_pos ht]
      have hw := cuTo_ways most p
      have hl1 : p.1 < s.1.length := by rw [h.len]; exact h1
      have hl2 : p.2 < s.1.length := by rw [h.len]; exact h2
      have G := swap_getD s.1 p.1 p.2 hl1 hl2 hne
      have hsw : (s.2.1 = p.1 ∧ cuTo most p = p.2) ∨ (s.2.1 = p.2 ∧ cuTo most p = p.1) := by
        rcases hw with hw | hw
        · right; refine ⟨?_, hw⟩
          have : p.1 ≠ s.2.1 := by rw [← hw]; exact ht
          exact (Classical.not_not.1 fun hh => hs ⟨this, hh⟩).symm
        · left; refine ⟨?_, hw⟩
          have : p.2 ≠ s.2.1 := by rw [← hw]; exact ht
          exact (Classical.not_not.1 fun hh => hs ⟨hh, this⟩).symm
      have hto : cuTo most p < N := by rcases hw with hw | hw <;> rw [hw] <;> assumption
      refine ⟨by simpa using h.len, hto, ?_, ?_, ?_, h.kp⟩
      · intro j hj
        show 0 ≤ List.getD _ j 0 ∧ List.getD _ j 0 < _
        rw [G]
        split
        · exact h.bd _ h1
        · split
          · exact h.bd _ h2
          · exact h.bd _ hj
      · intro j hj
        show List.getD _ j 0 = _ ↔ j = cuTo most p
        rw [G]
        rcases hsw with ⟨e1, e2⟩ | ⟨e1, e2⟩ <;> rw [e2]
        · split
          · rename_i q; subst q; exact ⟨fun _ => rfl, fun _ => (h.at' _ h1).2 e1.symm⟩
          · split
            · rename_i q1 q; exact ⟨fun e => absurd ((h.at' _ h2).1 e) (by omega), fun e => absurd e q1⟩
            · rename_i q1 q2; exact ⟨fun e => absurd ((h.at' _ hj).1 e) (by omega), fun e => absurd e q1⟩
        · split
          · rename_i q; subst q; exact ⟨fun e => absurd ((h.at' _ h1).1 e) (by omega), fun e => absurd e.symm hne⟩
          · split
            · rename_i q1 q; exact ⟨fun _ => q, fun _ => (h.at' _ h2).2 e1.symm⟩
            · rename_i q1 q2; exact ⟨fun e => absurd ((h.at' _ hj).1 e) (by omega), fun e => absurd e q2⟩
      · intro i j hi hj
        show List.getD _ i 0 = List.getD _ j 0 → _
        rw [G, G]
        intro e
        have I := h.inj
        by_cases a1 : i = p.2 <;> by_cases a2 : j = p.2
        · omega
        · rw [if_pos a1, if_neg a2] at e
          by_cases a3 : j = p.1
          · rw [if_pos a3] at e; exact absurd (I _ _ h1 h2 e) hne
          · rw [if_neg a3] at e; exact absurd (I _ _ h1 hj e) (Ne.symm a3)
        · rw [if_neg a1, if_pos a2] at e
          by_cases a3 : i = p.1
          · rw [if_pos a3] at e; exact absurd (I _ _ h2 h1 e) (Ne.symm hne)
          · rw [if_neg a3] at e; exact absurd (I _ _ hi h1 e) a3
        · rw [if_neg a1, if_neg a2] at e
          by_cases a3 : i = p.1 <;> by_cases a4 : j = p.1
          · omega
          · rw [if_pos a3, if_neg a4] at e; exact absurd (I _ _ h2 hj e) (Ne.symm a2)
          · rw [if_neg a3, if_pos a4] at e; exact absurd (I _ _ hi h2 e) a1
          · rw [if_neg a3, if_neg a4] at e; exact I _ _ hi hj e
    · rw [if_neg ht]; exact h

theorem cf_toNat {c : Nat} {v : Int} (h0 : 0 ≤ v) (hc : v ≠ c) : (cf c v).toNat = cg c v.toNat := by
  have := cf_ne (c := c) (a := v.toNat) (by omega)
  rw [Int.toNat_of_nonneg h0] at this
  rw [this]; simp

theorem cvStep_of {N c : Nat} {s : List Int × Nat × List (Nat × Nat)} (h : CuOk N c s) (most : Bool) (p : Nat × Nat) (h1 : p.1 < N) (h2 : p.2 < N) (hne : p.1 ≠ p.2) : cvStep most p (cvOf c s) = cvOf c (cuStep most p s) := by
  unfold cvStep cuStep
  have hl1 : p.1 < s.1.length := by rw [h.len]; exact h1
  have hl2 : p.2 < s.1.length := by rw [h.len]; exact h2
  show (if p.1 ≠ s.2.1 ∧ p.2 ≠ s.2.1 then _ else if cuTo most p ≠ s.2.1 then _ else _) = _
  by_cases hs : p.1 ≠ s.2.1 ∧ p.2 ≠ s.2.1
  · rw [if_pos hs, if_pos hs]
    have n1 : s.1.getD p.1 0 ≠ c := fun e => hs.1 ((h.at' _ h1).1 e)
    have n2 : s.1.getD p.2 0 ≠ c := fun e => hs.2 ((h.at' _ h2).1 e)
    unfold cuIn cvOf
    simp only [Prod.mk.injEq, true_and]
    rw [getD_map _ _ _ hl1, getD_map _ _ _ hl2, cf_toNat (h.bd _ h1).1 n1, cf_toNat (h.bd _ h2).1 n2, List.map_append]
    rfl
  · rw [if_neg hs, if_neg hs]
    by_cases ht : cuTo most p ≠ s.2.1
    · rw [if_pos ht, if_pos ht]
      have hw := cuTo_ways most p
      unfold cvOf
      simp only [Prod.mk.injEq, and_true]
      rw [List.map_set, List.map_set]
      rcases hw with hw | hw
      · have hn : p.1 ≠ s.2.1 := by rw [← hw]; exact ht
        have e : p.2 = s.2.1 := Classical.not_not.1 fun hh => hs ⟨hn, hh⟩
        have ec : s.1.getD p.2 0 = c := (h.at' _ h2).2 e
        rw [hw, ec, cf_c, ← e, getD_map _ _ _ hl1]
        exact List.set_comm _ _ (Ne.symm hne)
      · have hn : p.2 ≠ s.2.1 := by rw [← hw]; exact ht
        have e : p.1 = s.2.1 := Classical.not_not.1 fun hh => hs ⟨hh, hn⟩
        have ec : s.1.getD p.1 0 = c := (h.at' _ h1).2 e
        rw [hw, ec, cf_c, ← e, getD_map _ _ _ hl2]
    · rw [if_neg ht, if_neg ht]

theorem cuStep_len (most : Bool) (p : Nat × Nat) (s : List Int × Nat × List (Nat × Nat)) : (cuStep most p s).2.2.length ≤ s.2.2.length + 1 := by
  unfold cuStep cuIn; split
  · simp
  · split <;> simp

theorem cuSt_ok {N c : Nat} {ps : List (Nat × Nat)} (hp : PsOk N ps) {xs : List Int} (most : Bool) (h0 : CuOk N c (xs, c, [])) (k : Nat) (hk : k ≤ ps.length) :
    CuOk N c (cuSt ps c most xs k) ∧ (cuSt ps c most xs k).2.2.length ≤ k ∧ cvSt ps c most (xs.map (cf c)) k = cvOf c (cuSt ps c most xs k) := by
  induction k with
  | zero => exact ⟨h0, Nat.le_refl _, rfl⟩
  | succ k ih =>
    obtain ⟨i1, i2, i3⟩ := ih (by omega)
    have hg : ps.getD k (0, 0) = ps[k] := by rw [List.getD_eq_getElem?_getD, List.getElem?_eq_getElem (by omega)]; rfl
    obtain ⟨a1, a2, a3⟩ := hp.2.2.2 k (by omega)
    refine ⟨?_, ?_, ?_⟩
    · show CuOk N c (cuStep most (ps.getD k (0, 0)) _)
      rw [hg]; exact cuStep_ok i1 most _ a1 a2 a3
    · have := cuStep_len most (ps.getD k (0, 0)) (cuSt ps c most xs k)
      show (cuStep most (ps.getD k (0, 0)) _).2.2.length ≤ _
      omega
    · show cvStep most (ps.getD k (0, 0)) (cvSt ps c most (xs.map (cf c)) k) = cvOf c (cuStep most (ps.getD k (0, 0)) _)
      rw [i3, hg]; exact cvStep_of i1 most _ a1 a2 a3

/-- How many wires ahead of k stay. -/
def cnt (sp k : Nat) : Int := if sp < k then (k : Int) - 1 else k
theorem cnt_skip (sp : Nat) : cnt sp (sp + 1) = cnt sp sp := by unfold cnt; rw [if_pos (by omega), if_neg (by omega)]; omega
theorem cnt_next {sp k : Nat} (h : k ≠ sp) : cnt sp (k + 1) = cnt sp k + 1 := by unfold cnt; split <;> split <;> omega
theorem cnt_end {sp N : Nat} (h : sp < N) : cnt sp N = (N : Int) - 1 := by unfold cnt; rw [if_pos h]
theorem cnt_bd (sp k : Nat) : 0 ≤ cnt sp k ∧ cnt sp k ≤ k := by unfold cnt; split <;> omega
/-- The new names of the values. -/
def nmL (xs : List Int) (sp M : Nat) : Nat → List Int
  | 0 => List.replicate M 0
  | k + 1 => if k = sp then nmL xs sp M k else (nmL xs sp M k).set (xs.getD k 0).toNat (cnt sp k)
theorem nmL_skip (xs : List Int) (M : Nat) {sp k : Nat} (h : k = sp) : nmL xs sp M (k + 1) = nmL xs sp M k := by show (if _ then _ else _) = _; rw [if_pos h]
theorem nmL_next (xs : List Int) (M : Nat) {sp k : Nat} (h : k ≠ sp) : nmL xs sp M (k + 1) = (nmL xs sp M k).set (xs.getD k 0).toNat (cnt sp k) := by show (if _ then _ else _) = _; rw [if_neg h]
theorem nmL_length (xs : List Int) (sp M k : Nat) : (nmL xs sp M k).length = M := by
  induction k with
  | zero => simp [nmL]
  | succ k ih =>
    by_cases h : k = sp
    · rw [nmL_skip _ _ h]; exact ih
    · rw [nmL_next _ _ h, List.length_set]; exact ih
theorem nmL_bd (xs : List Int) (sp M k : Nat) : ∀ x ∈ nmL xs sp M k, 0 ≤ x ∧ x ≤ k := by
  induction k with
  | zero => intro x hx; simp [nmL] at hx; omega
  | succ k ih =>
    intro x hx
    by_cases h : k = sp
    · rw [nmL_skip _ _ h] at hx; have := ih x hx; omega
    · rw [nmL_next _ _ h] at hx
      rcases List.mem_or_eq_of_mem_set hx with hx | hx
      · have := ih x hx; omega
      · have := cnt_bd sp k; omega
theorem nmL_getD_bd (xs : List Int) (sp M k j : Nat) : 0 ≤ (nmL xs sp M k).getD j 0 ∧ (nmL xs sp M k).getD j 0 ≤ k := by
  rcases Nat.lt_or_ge j (nmL xs sp M k).length with h | h
  · rw [List.getD_eq_getElem?_getD, List.getElem?_eq_getElem h]
    exact nmL_bd xs sp M k _ (List.getElem_mem h)
  · rw [List.getD_eq_getElem?_getD, List.getElem?_eq_none h]; simp

theorem nmL_of {N c : Nat} {s : List Int × Nat × List (Nat × Nat)} (h : CuOk N c s) (hc : c < N) (k : Nat) (hk : k ≤ N) (v : Nat) (hv : v < N) (hvc : v ≠ c) :
    (nmL (s.1.map (cf c)) s.2.1 (N - 1) k).getD (cg c v) 0 = (nmL s.1 s.2.1 N k).getD v 0 := by
  induction k with
  | zero =>
    show (List.replicate (N - 1) (0 : Int)).getD _ 0 = (List.replicate N (0 : Int)).getD _ 0
    rw [List.getD_eq_getElem?_getD, List.getD_eq_getElem?_getD, List.getElem?_replicate, List.getElem?_replicate]
    rw [if_pos hv]; split <;> rfl
  | succ k ih =>
    have hi := ih (by omega)
    by_cases hks : k = s.2.1
    · rw [nmL_skip _ _ hks, nmL_skip _ _ hks]; exact hi
    · rw [nmL_next _ _ hks, nmL_next _ _ hks]
      have hb := h.bd k (by omega)
      have hne : s.1.getD k 0 ≠ c := fun e => hks ((h.at' k (by omega)).1 e)
      rw [getD_map _ _ _ (by rw [h.len]; omega), cf_toNat hb.1 hne]
      generalize s.1.getD k 0 = a at *
      by_cases e : a.toNat = v
      · subst e
        rw [getD_set_same _ _ _ (by rw [nmL_length]; exact cg_lt (by omega) (by omega) hc), getD_set_same _ _ _ (by rw [nmL_length]; omega)]
      · rw [getD_set_other _ _ e, getD_set_other _ _ (fun h => e (cg_inj (by omega) hvc h))]
        exact hi

/-- The rows of the network behind the cut. -/
def cutL (nm : List Int) (kp : List (Nat × Nat)) : List (List Int) := kp.map fun q => [nm.getD q.1 0, nm.getD q.2 0]
theorem cutL_length (nm : List Int) (kp : List (Nat × Nat)) : (cutL nm kp).length = kp.length := by simp [cutL]
theorem cutL_two (nm : List Int) (kp : List (Nat × Nat)) : ∀ r ∈ cutL nm kp, r.length ≤ 2 := by
  intro r hr; obtain ⟨q, _, rfl⟩ := List.mem_map.1 hr; simp
theorem cutL_next (nm : List Int) (kp : List (Nat × Nat)) (k : Nat) (h : k < kp.length) : cutL nm (kp.take (k + 1)) = cutL nm (kp.take k) ++ [[nm.getD kp[k].1 0, nm.getD kp[k].2 0]] := by
  unfold cutL; rw [List.take_succ_eq_append_getElem h, List.map_append]; rfl
theorem cutL_of {N c : Nat} {s : List Int × Nat × List (Nat × Nat)} (h : CuOk N c s) (hc : c < N) :
    cutL (nmL (s.1.map (cf c)) s.2.1 (N - 1) N) (s.2.2.map fun q => (cg c q.1, cg c q.2)) = cutL (nmL s.1 s.2.1 N N) s.2.2 := by
  unfold cutL
  rw [List.map_map]
  apply List.map_congr_left
  intro q hq
  obtain ⟨a1, a2, a3, a4⟩ := h.kp q hq
  show [_, _] = [_, _]
  rw [nmL_of h hc N (Nat.le_refl _) _ a1 a3, nmL_of h hc N (Nat.le_refl _) _ a2 a4]

theorem rowsOf_snoc (kp : List (Nat × Nat)) (a b : Int) (ha : 0 ≤ a) (hb : 0 ≤ b) : rowsOf (kp ++ [(a.toNat, b.toNat)]) = rowsOf kp ++ [[a, b]] := by
  unfold rowsOf
  rw [List.map_append]
  simp only [List.map_cons, List.map_nil]
  rw [Int.toNat_of_nonneg ha, Int.toNat_of_nonneg hb]

/-- What one of the two states is like; M: how many names there are. -/
structure StOk (N M k : Nat) (s : List Int × Nat × List (Nat × Nat)) : Prop where
  len : s.1.length = N
  sp : s.2.1 < N
  in64 : ∀ x ∈ s.1, -1 ≤ x ∧ x < N
  pos : ∀ j, j < N → j ≠ s.2.1 → 0 ≤ s.1.getD j 0 ∧ s.1.getD j 0 < M
  kl : s.2.2.length ≤ k
  kp : ∀ q ∈ s.2.2, q.1 < M ∧ q.2 < M
theorem CuOk.st {N c k : Nat} {s : List Int × Nat × List (Nat × Nat)} (h : CuOk N c s) (hk : s.2.2.length ≤ k) : StOk N N k s := by
  refine ⟨h.len, h.sp, ?_, fun j hj _ => h.bd j hj, hk, fun q hq => ⟨(h.kp q hq).1, (h.kp q hq).2.1⟩⟩
  intro x hx
  obtain ⟨i, hi, rfl⟩ := List.getElem_of_mem hx
  have := h.bd i (by rw [← h.len]; exact hi)
  rw [List.getD_eq_getElem?_getD, List.getElem?_eq_getElem hi] at this
  simp only [Option.getD_some] at this
  omega
theorem cf_bd {c : Nat} {v : Int} {N : Nat} (h0 : 0 ≤ v) (h1 : v < N) : -1 ≤ cf c v ∧ cf c v < N := by
  unfold cf; split
  · omega
  · split <;> omega
theorem CuOk.stv {N c k : Nat} {s : List Int × Nat × List (Nat × Nat)} (h : CuOk N c s) (hc : c < N) (hk : s.2.2.length ≤ k) : StOk N (N - 1) k (cvOf c s) ∧ (cvOf c s).1.getD (cvOf c s).2.1 0 = -1 := by
  refine ⟨⟨by simpa [cvOf] using h.len, h.sp, ?_, ?_, by simpa [cvOf] using hk, ?_⟩, ?_⟩
  · intro x hx
    obtain ⟨y, hy, rfl⟩ := List.mem_map.1 hx
    obtain ⟨i, hi, rfl⟩ := List.getElem_of_mem hy
    have := h.bd i (by rw [← h.len]; exact hi)
    rw [List.getD_eq_getElem?_getD, List.getElem?_eq_getElem hi] at this
    simp only [Option.getD_some] at this
    exact cf_bd this.1 this.2
  · intro j hj hjs
    show 0 ≤ (s.1.map (cf c)).getD j 0 ∧ (s.1.map (cf c)).getD j 0 < _
    rw [getD_map _ _ _ (by rw [h.len]; exact hj)]
    have hb := h.bd j hj
    have hn : s.1.getD j 0 ≠ c := fun e => hjs ((h.at' j hj).1 e)
    have e := cf_ne (c := c) (a := (s.1.getD j 0).toNat) (by omega)
    rw [Int.toNat_of_nonneg hb.1] at e
    have l := cg_lt (c := c) (a := (s.1.getD j 0).toNat) (N := N) (by omega) (by omega) hc
    rw [e]; omega
  · intro q hq
    obtain ⟨r, hr, rfl⟩ := List.mem_map.1 hq
    obtain ⟨a1, a2, a3, a4⟩ := h.kp r hr
    exact ⟨cg_lt a3 a1 hc, cg_lt a4 a2 hc⟩
  · show (s.1.map (cf c)).getD s.2.1 0 = -1
    rw [getD_map _ _ _ (by rw [h.len]; exact h.sp), (h.at' _ h.sp).2 rfl, cf_c]

def idN (n : Nat) : List Int := (List.range n).map fun (i : Nat) => (i : Int)
theorem idN_getD {n j : Nat} (h : j < n) : (idN n).getD j 0 = (j : Int) := by
  rw [List.getD_eq_getElem?_getD]; simp [idN, h]
theorem idN_ok {N c : Nat} (hc : c < N) : CuOk N c (idN N, c, []) := by
  refine ⟨by simp [idN], hc, ?_, ?_, ?_, fun q hq => by cases hq⟩
  · intro j hj; show 0 ≤ (idN N).getD j 0 ∧ (idN N).getD j 0 < N; rw [idN_getD hj]; omega
  · intro j hj; show (idN N).getD j 0 = c ↔ j = c; rw [idN_getD hj]; omega
  · intro i j hi hj; show (idN N).getD i 0 = (idN N).getD j 0 → _; rw [idN_getD hi, idN_getD hj]; omega
/-- The reference's lines at the start. -/
def lnL (c n : Nat) : List Int := (idN n).map (cf c)
theorem lnL_length (c n : Nat) : (lnL c n).length = n := by simp [lnL, idN]
theorem lnL_next (c n : Nat) : lnL c (n + 1) = lnL c n ++ [cf c n] := by simp [lnL, idN, List.range_succ]
theorem idN_length (n : Nat) : (idN n).length = n := by simp [idN]
theorem idN_next (n : Nat) : idN (n + 1) = idN n ++ [(n : Int)] := by simp [idN, List.range_succ]

/-- CutWire takes this network and this wire. -/
def CutP (n : Int) (rows : List (List Int)) (wire : Int) : Prop := StdP n rows ∧ n ≠ 1 ∧ 0 ≤ wire ∧ wire < n
/-- The rows that CutWire returns. -/
def cutS (n : Int) (rows : List (List Int)) (wire : Int) (most : Bool) : List Int × Nat × List (Nat × Nat) := cuSt (pairsOf rows) wire.toNat most (idN n.toNat) rows.length
def cutR (n : Int) (rows : List (List Int)) (wire : Int) (most : Bool) : List (List Int) :=
  cutL (nmL (cutS n rows wire most).1 (cutS n rows wire most).2.1 n.toNat n.toNat) (cutS n rows wire most).2.2
/-- The same, as the reference reckons. -/
def cvtS (n : Int) (rows : List (List Int)) (wire : Int) (most : Bool) : List Int × Nat × List (Nat × Nat) := cvSt (pairsOf rows) wire.toNat most (lnL wire.toNat n.toNat) rows.length
def cvtR (n : Int) (rows : List (List Int)) (wire : Int) (most : Bool) : List (List Int) :=
  cutL (nmL (cvtS n rows wire most).1 (cvtS n rows wire most).2.1 (n.toNat - 1) n.toNat) (cvtS n rows wire most).2.2
theorem cut_facts {N c : Nat} {rows : List (List Int)} (hp : PsOk N (pairsOf rows)) (hc : c < N) (most : Bool) (k : Nat) (hk : k ≤ rows.length) :
    CuOk N c (cuSt (pairsOf rows) c most (idN N) k) ∧ (cuSt (pairsOf rows) c most (idN N) k).2.2.length ≤ k ∧ cvSt (pairsOf rows) c most (lnL c N) k = cvOf c (cuSt (pairsOf rows) c most (idN N) k) :=
  cuSt_ok hp most (idN_ok hc) k (by rw [pairsOf, List.length_map]; exact hk)
theorem cut_eq {N c : Nat} {rows : List (List Int)} (hp : PsOk N (pairsOf rows)) (hc : c < N) (most : Bool) : cvtR N rows c most = cutR N rows c most := by
  obtain ⟨h1, h2, h3⟩ := cut_facts (c := c) hp hc most rows.length (Nat.le_refl _)
  unfold cvtR cutR cvtS cutS
  rw [Int.toNat_natCast, Int.toNat_natCast, h3]
  exact cutL_of h1 hc
/-- The two states at place k. -/
theorem cu_st {N c : Nat} {rows : List (List Int)} (hp : PsOk N (pairsOf rows)) (hc : c < N) (most : Bool) (k : Nat) (hk : k ≤ rows.length) : StOk N N k (cuSt (pairsOf rows) c most (idN N) k) := by
  obtain ⟨h1, h2, h3⟩ := cut_facts (c := c) hp hc most k hk
  exact h1.st h2
theorem cv_st {N c : Nat} {rows : List (List Int)} (hp : PsOk N (pairsOf rows)) (hc : c < N) (most : Bool) (k : Nat) (hk : k ≤ rows.length) :
    StOk N (N - 1) k (cvSt (pairsOf rows) c most (lnL c N) k) ∧ (cvSt (pairsOf rows) c most (lnL c N) k).1.getD (cvSt (pairsOf rows) c most (lnL c N) k).2.1 0 = -1 := by
  obtain ⟨h1, h2, h3⟩ := cut_facts (c := c) hp hc most k hk
  rw [h3]
  exact h1.stv hc h2
/-- Few rows of two. -/
def sumLenTwo (R : List (List Int)) : Prop := R.length ≤ 60 ∧ ∀ r ∈ R, r.length ≤ 2
theorem cut_le (n : Int) (rows : List (List Int)) (wire : Int) (most : Bool) (h : CutP n rows wire) : sumLenTwo (cutR n rows wire most) := by
  obtain ⟨N, rfl, _, hp⟩ := h.1.1.pairs
  obtain ⟨c, rfl⟩ : ∃ c : Nat, wire = c := ⟨wire.toNat, by have := h.2.2.1; omega⟩
  obtain ⟨h1, h2, h3⟩ := cut_facts (c := c) hp (by have := h.2.2.2; omega) most rows.length (Nat.le_refl _)
  refine ⟨?_, cutL_two _ _⟩
  unfold cutR cutS
  rw [cutL_length, Int.toNat_natCast, Int.toNat_natCast]
  have := h.1.1.2.1
  omega

section
variable {ps : List (Nat × Nat)} {c : Nat} {most : Bool} {xs ys : List Int} {k s : Nat} {kp : List (Nat × Nat)}
theorem cu_getD (hk : k < ps.length) : ps.getD k (0, 0) = ps[k] := by rw [List.getD_eq_getElem?_getD, List.getElem?_eq_getElem hk]; rfl
theorem cuSt_A (h : cuSt ps c most xs k = (ys, s, kp)) (hk : k < ps.length) (h1 : ps[k].1 ≠ s) (h2 : ps[k].2 ≠ s) :
    cuSt ps c most xs (k + 1) = (ys, s, kp ++ [((ys.getD ps[k].1 0).toNat, (ys.getD ps[k].2 0).toNat)]) := by
  show cuStep most (ps.getD k (0, 0)) (cuSt ps c most xs k) = _
  rw [h, cu_getD hk]; unfold cuStep; rw [if_pos ⟨h1, h2⟩]; rfl
theorem cuSt_B (h : cuSt ps c most xs k = (ys, s, kp)) (hk : k < ps.length) (h1 : ps[k].1 = s ∨ ps[k].2 = s) (h2 : cuTo most ps[k] ≠ s) :
    cuSt ps c most xs (k + 1) = ((ys.set ps[k].1 (ys.getD ps[k].2 0)).set ps[k].2 (ys.getD ps[k].1 0), cuTo most ps[k], kp) := by
  show cuStep most (ps.getD k (0, 0)) (cuSt ps c most xs k) = _
  rw [h, cu_getD hk]; unfold cuStep; rw [if_neg (fun hh => h1.elim hh.1 hh.2), if_pos h2]
theorem cuSt_C (h : cuSt ps c most xs k = (ys, s, kp)) (hk : k < ps.length) (h1 : ps[k].1 = s ∨ ps[k].2 = s) (h2 : cuTo most ps[k] = s) :
    cuSt ps c most xs (k + 1) = (ys, s, kp) := by
  show cuStep most (ps.getD k (0, 0)) (cuSt ps c most xs k) = _
  rw [h, cu_getD hk]; unfold cuStep; rw [if_neg (fun hh => h1.elim hh.1 hh.2), if_neg (fun hh => hh h2)]
theorem cvSt_A (h : cvSt ps c most xs k = (ys, s, kp)) (hk : k < ps.length) (h1 : ps[k].1 ≠ s) (h2 : ps[k].2 ≠ s) :
    cvSt ps c most xs (k + 1) = (ys, s, kp ++ [((ys.getD ps[k].1 0).toNat, (ys.getD ps[k].2 0).toNat)]) := by
  show cvStep most (ps.getD k (0, 0)) (cvSt ps c most xs k) = _
  rw [h, cu_getD hk]; unfold cvStep; rw [if_pos ⟨h1, h2⟩]; rfl
theorem cvSt_B (h : cvSt ps c most xs k = (ys, s, kp)) (hk : k < ps.length) (h1 : ps[k].1 = s ∨ ps[k].2 = s) (h2 : cuTo most ps[k] ≠ s) :
    cvSt ps c most xs (k + 1) = ((ys.set s (ys.getD (cuTo most ps[k]) 0)).set (cuTo most ps[k]) (-1), cuTo most ps[k], kp) := by
  show cvStep most (ps.getD k (0, 0)) (cvSt ps c most xs k) = _
  rw [h, cu_getD hk]; unfold cvStep; rw [if_neg (fun hh => h1.elim hh.1 hh.2), if_pos h2]
theorem cvSt_C (h : cvSt ps c most xs k = (ys, s, kp)) (hk : k < ps.length) (h1 : ps[k].1 = s ∨ ps[k].2 = s) (h2 : cuTo most ps[k] = s) :
    cvSt ps c most xs (k + 1) = (ys, s, kp) := by
  show cvStep most (ps.getD k (0, 0)) (cvSt ps c most xs k) = _
  rw [h, cu_getD hk]; unfold cvStep; rw [if_neg (fun hh => h1.elim hh.1 hh.2), if_neg (fun hh => hh h2)]
end
end Go.Proofs.Ytboimhjmkcdgdaa
