/- Plain laws of a stable sort by insertion and merging in place. No program is named. -/
import Derived.Test.YthcnmaapcniehaaKit
import Derived.Sort.WalkA
import Derived.Sort.Lot0
namespace Go.Proofs.Ythcnmaapcniehaa
open Go.Sort
set_option linter.unusedVariables false
section
variable {α : Type} [Inhabited α]

theorem arr_at {d : Array α} {l : List α} (h : d.toList = l) (i : Nat) : d[i]! = l.getD i default := by
  subst h
  rw [List.getD_eq_getElem?_getD]
  simp only [Array.getElem?_toList]
  rcases Nat.lt_or_ge i d.size with hi | hi
  · rw [getElem!_pos d i hi, Array.getElem?_eq_getElem hi]; rfl
  · rw [getElem!_neg d i (by omega), Array.getElem?_eq_none hi]; rfl
theorem swp_toList (d : Array α) (i j : Nat) : (swp d i j).toList = (d.toList.set i d[j]!).set j d[i]! := by simp [swp]
theorem getD_midL {β : Type} (L T : List β) (x : β) {i : Nat} (hi : i = L.length) (z : β) : (L ++ x :: T).getD i z = x := by
  subst hi; simp [List.getD_eq_getElem?_getD]
theorem set_midL {β : Type} (L T : List β) (x y : β) {i : Nat} (hi : i = L.length) : (L ++ x :: T).set i y = L ++ y :: T := by
  subst hi; simp
theorem swp_list {d : Array α} {L M Z : List α} {x y : α} (h : d.toList = L ++ x :: (M ++ y :: Z)) {i j : Nat} (hi : i = L.length) (hj : j = L.length + 1 + M.length) : (swp d i j).toList = L ++ y :: (M ++ x :: Z) := by
  have e1 : d[i]! = x := by rw [arr_at h]; exact getD_midL _ _ _ hi _
  have h2 : d.toList = (L ++ x :: M) ++ y :: Z := by rw [h]; simp
  have e2 : d[j]! = y := by rw [arr_at h2]; exact getD_midL _ _ _ (by rw [hj]; simp; omega) _
  rw [swp_toList, e1, e2, h, set_midL _ _ _ _ hi]
  have h3 : L ++ y :: (M ++ y :: Z) = (L ++ y :: M) ++ y :: Z := by simp
  rw [h3, set_midL _ _ _ _ (by rw [hj]; simp; omega)]
  simp
theorem swp_list' {d : Array α} {L M Z : List α} {x y : α} (h : d.toList = L ++ x :: (M ++ y :: Z)) {i j : Nat} (hi : i = L.length) (hj : j = L.length + 1 + M.length) : (swp d j i).toList = L ++ y :: (M ++ x :: Z) := by
  have e1 : d[i]! = x := by rw [arr_at h]; exact getD_midL _ _ _ hi _
  have h2 : d.toList = (L ++ x :: M) ++ y :: Z := by rw [h]; simp
  have e2 : d[j]! = y := by rw [arr_at h2]; exact getD_midL _ _ _ (by rw [hj]; simp; omega) _
  rw [swp_toList, e1, e2, h2, set_midL _ _ _ _ (by rw [hj]; simp; omega)]
  have h3 : (L ++ x :: M) ++ x :: Z = L ++ x :: (M ++ x :: Z) := by simp
  rw [h3, set_midL _ _ _ _ hi]

/-- Two stretches of a row being exchanged, i places done. -/
def srg (L X M Y Z : List α) (i : Nat) : List α := L ++ (Y.take i ++ (X.drop i ++ (M ++ (X.take i ++ (Y.drop i ++ Z)))))
theorem srg_zero {β : Type} (L X M Y Z : List β) : srg L X M Y Z 0 = L ++ (X ++ (M ++ (Y ++ Z))) := by simp [srg]
theorem srg_all {β : Type} (L X M Y Z : List β) (h : Y.length = X.length) : srg L X M Y Z X.length = L ++ (Y ++ (M ++ (X ++ Z))) := by
  unfold srg
  rw [List.take_of_length_le (Nat.le_refl X.length), List.take_of_length_le (by omega : Y.length ≤ X.length), List.drop_of_length_le (Nat.le_refl X.length), List.drop_of_length_le (by omega : Y.length ≤ X.length)]
  simp
theorem srg_step {d : Array α} {L X M Y Z : List α} {i : Nat} (hd : d.toList = srg L X M Y Z i) (hXY : Y.length = X.length) (hi : i < X.length) {p q : Nat} (hp : p = L.length + i) (hq : q = L.length + X.length + M.length + i) :
    (swp d p q).toList = srg L X M Y Z (i + 1) := by
  have hY : i < Y.length := by omega
  have h : d.toList = (L ++ Y.take i) ++ X[i] :: ((X.drop (i + 1) ++ (M ++ X.take i)) ++ Y[i] :: (Y.drop (i + 1) ++ Z)) := by
    rw [hd]; unfold srg
    rw [List.drop_eq_getElem_cons hi, List.drop_eq_getElem_cons hY]
    simp only [List.append_assoc, List.cons_append]
  have := swp_list h (i := p) (j := q) (by rw [hp]; simp; omega) (by rw [hq]; simp; omega)
  rw [this]
  unfold srg
  rw [List.take_succ_eq_append_getElem hi, List.take_succ_eq_append_getElem hY]
  simp only [List.append_assoc, List.cons_append, List.nil_append]

/-- A rotation under way: X and Y are still to change places. -/
def RotI (d : Array α) (T : List α) (i j m : Nat) : Prop := ∃ P X Y Q : List α, d.toList = P ++ (X ++ (Y ++ Q)) ∧ X.length = i ∧ Y.length = j ∧ P.length + i = m ∧ P ++ (Y ++ (X ++ Q)) = T ∧ 0 < i ∧ 0 < j
/-- One exchange of a rotation: what swapRange is called with, and what follows. -/
theorem RotI.more {β : Type} {d : Array β} {T : List β} {i j m : Nat} (h : RotI d T i j m) (hij : j < i) : ∃ L X M Y Z : List β, d.toList = L ++ (X ++ (M ++ (Y ++ Z))) ∧ Y.length = X.length ∧ m - i = L.length ∧ m = L.length + X.length + M.length ∧ j = X.length ∧ i ≤ m ∧
    ∀ d' : Array β, d'.toList = L ++ (Y ++ (M ++ (X ++ Z))) → RotI d' T (i - j) j m := by
  obtain ⟨P, X, Y, Q, h1, h2, h3, h4, h5, h6, h7⟩ := h
  refine ⟨P, X.take j, X.drop j, Y, Q, ?_, ?_, by omega, ?_, ?_, by omega, ?_⟩
  · rw [h1, ← List.append_assoc (X.take j), List.take_append_drop]
  · simp; omega
  · simp; omega
  · simp; omega
  · intro d' hd'
    refine ⟨P ++ Y, X.drop j, X.take j, Q, by rw [hd']; simp, by simp; omega, by simp; omega, by simp; omega, ?_, by omega, h7⟩
    rw [← h5]
    rw [← List.append_assoc (X.take j), List.take_append_drop]
    simp
theorem RotI.less {β : Type} {d : Array β} {T : List β} {i j m : Nat} (h : RotI d T i j m) (hij : i < j) : ∃ L X M Y Z : List β, d.toList = L ++ (X ++ (M ++ (Y ++ Z))) ∧ Y.length = X.length ∧ m - i = L.length ∧ m + j - i = L.length + X.length + M.length ∧ i = X.length ∧ i ≤ m ∧
    ∀ d' : Array β, d'.toList = L ++ (Y ++ (M ++ (X ++ Z))) → RotI d' T i (j - i) m := by
  obtain ⟨P, X, Y, Q, h1, h2, h3, h4, h5, h6, h7⟩ := h
  refine ⟨P, X, Y.take (j - i), Y.drop (j - i), Q, ?_, ?_, by omega, ?_, by omega, by omega, ?_⟩
  · rw [h1, ← List.append_assoc (Y.take _), List.take_append_drop]
  · simp; omega
  · simp; omega
  · intro d' hd'
    refine ⟨P, Y.drop (j - i), Y.take (j - i), X ++ Q, by rw [hd'], by simp; omega, by simp; omega, h4, ?_, h6, by omega⟩
    rw [← h5, ← List.append_assoc (Y.take _), List.take_append_drop]
theorem RotI.last {β : Type} {d : Array β} {T : List β} {i m : Nat} (h : RotI d T i i m) : ∃ L X Y Z : List β, d.toList = L ++ (X ++ ([] ++ (Y ++ Z))) ∧ Y.length = X.length ∧ m - i = L.length ∧ m = L.length + X.length + ([] : List β).length ∧ i = X.length ∧ i ≤ m ∧ L ++ (Y ++ ([] ++ (X ++ Z))) = T := by
  obtain ⟨P, X, Y, Q, h1, h2, h3, h4, h5, h6, h7⟩ := h
  exact ⟨P, X, Y, Q, by simpa using h1, by omega, by omega, by simp; omega, by omega, by omega, by simpa using h5⟩
theorem RotI.start {β : Type} {d : Array β} {L A B Z : List β} (h : d.toList = L ++ (A ++ (B ++ Z))) (hA : 0 < A.length) (hB : 0 < B.length) {i j m : Nat} (hi : i = A.length) (hj : j = B.length) (hm : m = L.length + A.length) : RotI d (L ++ (B ++ (A ++ Z))) i j m :=
  ⟨L, A, B, Z, h, hi.symm, hj.symm, by omega, rfl, by omega, by omega⟩

/-- Two sorted runs that a merge may be asked for: whoever compares an element of the later run with one of the earlier run hears how they lie. -/
def Mrg (lt : α → α → Prop) (cf : α → α → Int) (A B : List α) : Prop := A.Pairwise lt ∧ B.Pairwise lt ∧ ∀ y ∈ A, ∀ x ∈ B, (cf x y < 0 ∧ lt x y) ∨ (¬ cf x y < 0 ∧ lt y x)
/-- What a merge leaves. -/
def Out (lt : α → α → Prop) (A B C : List α) : Prop := C.Pairwise lt ∧ C.length = A.length + B.length ∧ ∀ x ∈ C, x ∈ A ∨ x ∈ B
variable {lt : α → α → Prop} {cf : α → α → Int}
theorem Mrg.sub {β : Type} {lt : β → β → Prop} {cf : β → β → Int} {A B A' B' : List β} (h : Mrg lt cf A B) (hA : A'.Sublist A) (hB : B'.Sublist B) : Mrg lt cf A' B' :=
  ⟨h.1.sublist hA, h.2.1.sublist hB, fun y hy x hx => h.2.2 y (hA.subset hy) x (hB.subset hx)⟩
theorem Mrg.yes {β : Type} {lt : β → β → Prop} {cf : β → β → Int} {A B : List β} (h : Mrg lt cf A B) {x y : β} (hy : y ∈ A) (hx : x ∈ B) (hc : cf x y < 0) : lt x y := (h.2.2 y hy x hx).elim (fun h => h.2) fun h => absurd hc h.1
theorem Mrg.no {β : Type} {lt : β → β → Prop} {cf : β → β → Int} {A B : List β} (h : Mrg lt cf A B) {x y : β} (hy : y ∈ A) (hx : x ∈ B) (hc : ¬ cf x y < 0) : lt y x := (h.2.2 y hy x hx).elim (fun h => absurd h.1 hc) fun h => h.2
theorem getD_mem' {β : Type} {l : List β} {i : Nat} (h : i < l.length) (z : β) : l.getD i z ∈ l := by
  rw [List.getD_eq_getElem?_getD, List.getElem?_eq_getElem h]; exact List.getElem_mem h
theorem pair_getD {β : Type} {lt : β → β → Prop} {l : List β} (h : l.Pairwise lt) {i j : Nat} (hij : i < j) (hj : j < l.length) (z : β) : lt (l.getD i z) (l.getD j z) := by
  rw [List.getD_eq_getElem?_getD, List.getD_eq_getElem?_getD, List.getElem?_eq_getElem hj, List.getElem?_eq_getElem (by omega)]
  exact List.pairwise_iff_getElem.1 h i j (by omega) hj hij
theorem mem_take_getD {β : Type} {l : List β} {u : Nat} {x : β} (h : x ∈ l.take u) (z : β) : ∃ t, t < u ∧ t < l.length ∧ x = l.getD t z := by
  obtain ⟨t, ht, rfl⟩ := List.getElem_of_mem h
  have ht : t < u ∧ t < l.length := by rw [List.length_take] at ht; omega
  exact ⟨t, ht.1, ht.2, by rw [List.getElem_take, List.getD_eq_getElem?_getD, List.getElem?_eq_getElem ht.2]; rfl⟩
theorem mem_drop_getD {β : Type} {l : List β} {u : Nat} {x : β} (h : x ∈ l.drop u) (z : β) : ∃ t, u ≤ t ∧ t < l.length ∧ x = l.getD t z := by
  obtain ⟨t, ht, rfl⟩ := List.getElem_of_mem h
  simp at ht
  have h2 : u + t < l.length := by omega
  exact ⟨u + t, by omega, h2, by rw [List.getElem_drop, List.getD_eq_getElem?_getD, List.getElem?_eq_getElem h2]; rfl⟩
theorem below_of {β : Type} {lt : β → β → Prop} {l : List β} (ht : ∀ x y z, lt x y → lt y z → lt x z) (h : l.Pairwise lt) {u t : Nat} {x z : β} (hu : u < l.length) (hx : lt (l.getD u z) x) (htu : t ≤ u) : lt (l.getD t z) x := by
  rcases Nat.lt_or_ge t u with h1 | h1
  · exact ht _ _ _ (pair_getD h h1 hu z) hx
  · obtain rfl : t = u := by omega
    exact hx
theorem above_of {β : Type} {lt : β → β → Prop} {l : List β} (ht : ∀ x y z, lt x y → lt y z → lt x z) (h : l.Pairwise lt) {u t : Nat} {x z : β} (hx : lt x (l.getD u z)) (htu : u ≤ t) (hu : t < l.length) : lt x (l.getD t z) := by
  rcases Nat.lt_or_ge u t with h1 | h1
  · exact ht _ _ _ hx (pair_getD h h1 hu z)
  · obtain rfl : t = u := by omega
    exact hx
theorem take_drop_lt {β : Type} {lt : β → β → Prop} {l : List β} (h : l.Pairwise lt) (u : Nat) : ∀ a ∈ l.take u, ∀ b ∈ l.drop u, lt a b := by
  have := h
  rw [← List.take_append_drop u l, List.pairwise_append] at this
  exact this.2.2

theorem merge1 {β : Type} {lt : β → β → Prop} {cf : β → β → Int} (ht : ∀ x y z, lt x y → lt y z → lt x z) {x : β} {B : List β} (h : Mrg lt cf [x] B) {i : Nat} (hi : i ≤ B.length) (z : β) (h1 : i = 0 ∨ cf (B.getD (i - 1) z) x < 0) (h2 : i = B.length ∨ ¬ cf (B.getD i z) x < 0) : Out lt [x] B (B.take i ++ x :: B.drop i) := by
  refine ⟨?_, by simp; omega, ?_⟩
  · have hx1 : ∀ a ∈ B.take i, lt a x := fun a ha => by
      obtain ⟨t, t1, t2, rfl⟩ := mem_take_getD ha z
      rcases h1 with h1 | h1
      · omega
      · exact below_of ht h.2.1 (u := i - 1) (by omega) (h.yes (by simp) (getD_mem' (by omega) z) h1) (by omega)
    have hx2 : ∀ a ∈ B.drop i, lt x a := fun a ha => by
      obtain ⟨t, t1, t2, rfl⟩ := mem_drop_getD ha z
      rcases h2 with h2 | h2
      · omega
      · exact above_of ht h.2.1 (u := i) (h.no (by simp) (getD_mem' (by omega) z) h2) t1 t2
    refine List.pairwise_append.2 ⟨h.2.1.sublist (List.take_sublist _ _), List.pairwise_cons.2 ⟨hx2, h.2.1.sublist (List.drop_sublist _ _)⟩, fun a ha b hb => ?_⟩
    rcases List.mem_cons.1 hb with rfl | hb
    · exact hx1 a ha
    · exact take_drop_lt h.2.1 i a ha b hb
  · intro a ha
    simp only [List.mem_append, List.mem_cons] at ha
    rcases ha with ha | rfl | ha
    · exact .inr (List.mem_of_mem_take ha)
    · exact .inl (by simp)
    · exact .inr (List.mem_of_mem_drop ha)
theorem merge2 {β : Type} {lt : β → β → Prop} {cf : β → β → Int} (ht : ∀ x y z, lt x y → lt y z → lt x z) {x : β} {A : List β} (h : Mrg lt cf A [x]) {i : Nat} (hi : i ≤ A.length) (z : β) (h1 : i = 0 ∨ ¬ cf x (A.getD (i - 1) z) < 0) (h2 : i = A.length ∨ cf x (A.getD i z) < 0) : Out lt A [x] (A.take i ++ x :: A.drop i) := by
  refine ⟨?_, by simp; omega, ?_⟩
  · have hx1 : ∀ a ∈ A.take i, lt a x := fun a ha => by
      obtain ⟨t, t1, t2, rfl⟩ := mem_take_getD ha z
      rcases h1 with h1 | h1
      · omega
      · exact below_of ht h.1 (u := i - 1) (by omega) (h.no (getD_mem' (by omega) z) (by simp) h1) (by omega)
    have hx2 : ∀ a ∈ A.drop i, lt x a := fun a ha => by
      obtain ⟨t, t1, t2, rfl⟩ := mem_drop_getD ha z
      rcases h2 with h2 | h2
      · omega
      · exact above_of ht h.1 (u := i) (h.yes (getD_mem' (by omega) z) (by simp) h2) t1 t2
    refine List.pairwise_append.2 ⟨h.1.sublist (List.take_sublist _ _), List.pairwise_cons.2 ⟨hx2, h.1.sublist (List.drop_sublist _ _)⟩, fun a ha b hb => ?_⟩
    rcases List.mem_cons.1 hb with rfl | hb
    · exact hx1 a ha
    · exact take_drop_lt h.1 i a ha b hb
  · intro a ha
    simp only [List.mem_append, List.mem_cons] at ha
    rcases ha with ha | rfl | ha
    · exact .inl (List.mem_of_mem_take ha)
    · exact .inr (by simp)
    · exact .inl (List.mem_of_mem_drop ha)
/-- Two halves, merged each, make the whole. -/
theorem merge3 {β : Type} {lt : β → β → Prop} {cf : β → β → Int} (ht : ∀ x y z, lt x y → lt y z → lt x z) {A B C1 C2 : List β} (h : Mrg lt cf A B) {u v : Nat} (hu : u ≤ A.length) (hv : v ≤ B.length) (z : β)
    (hF : u = 0 ∨ v = B.length ∨ ¬ cf (B.getD v z) (A.getD (u - 1) z) < 0) (hT : u = A.length ∨ v = 0 ∨ cf (B.getD (v - 1) z) (A.getD u z) < 0)
    (h1 : Out lt (A.take u) (B.take v) C1) (h2 : Out lt (A.drop u) (B.drop v) C2) : Out lt A B (C1 ++ C2) := by
  refine ⟨List.pairwise_append.2 ⟨h1.1, h2.1, fun a ha b hb => ?_⟩, ?_, ?_⟩
  · rcases h1.2.2 a ha with ha | ha <;> rcases h2.2.2 b hb with hb | hb
    · exact take_drop_lt h.1 u a ha b hb
    · obtain ⟨s, s1, s2, rfl⟩ := mem_take_getD ha z
      obtain ⟨t, t1, t2, rfl⟩ := mem_drop_getD hb z
      rcases hF with hF | hF | hF
      · omega
      · omega
      · have e := h.no (getD_mem' (by omega) z) (getD_mem' (by omega) z) hF
        exact below_of ht h.1 (u := u - 1) (by omega) (above_of ht h.2.1 e t1 t2) (by omega)
    · obtain ⟨s, s1, s2, rfl⟩ := mem_take_getD ha z
      obtain ⟨t, t1, t2, rfl⟩ := mem_drop_getD hb z
      rcases hT with hT | hT | hT
      · omega
      · omega
      · have e := h.yes (getD_mem' (by omega) z) (getD_mem' (by omega) z) hT
        exact below_of ht h.2.1 (u := v - 1) (by omega) (above_of ht h.1 e t1 t2) (by omega)
    · exact take_drop_lt h.2.1 v a ha b hb
  · have := h1.2.1; have := h2.2.1; simp at *; omega
  · intro x hx
    rcases List.mem_append.1 hx with hx | hx
    · rcases h1.2.2 x hx with hx | hx
      · exact .inl (List.mem_of_mem_take hx)
      · exact .inr (List.mem_of_mem_take hx)
    · rcases h2.2.2 x hx with hx | hx
      · exact .inl (List.mem_of_mem_drop hx)
      · exact .inr (List.mem_of_mem_drop hx)
theorem Out.left {β : Type} {lt : β → β → Prop} {A : List β} (h : A.Pairwise lt) : Out lt A [] A := ⟨h, by simp, fun x hx => .inl hx⟩
theorem Out.right {β : Type} {lt : β → β → Prop} {B : List β} (h : B.Pairwise lt) : Out lt [] B B := ⟨h, by simp, fun x hx => .inr hx⟩
/-- What the places of a row hold that is laid out as parts. -/
theorem at_A {d : Array α} {L A B Z : List α} (h : d.toList = L ++ (A ++ (B ++ Z))) {t p : Nat} (hp : p = L.length + t) (ht : t < A.length) : d[p]! = A.getD t default := by
  rw [arr_at h, hp, List.getD_eq_getElem?_getD, List.getD_eq_getElem?_getD, List.getElem?_append_right (by omega), Nat.add_sub_cancel_left, List.getElem?_append_left ht]
theorem at_B {d : Array α} {L A B Z : List α} (h : d.toList = L ++ (A ++ (B ++ Z))) {t p : Nat} (hp : p = L.length + A.length + t) (ht : t < B.length) : d[p]! = B.getD t default := by
  rw [arr_at h, hp, List.getD_eq_getElem?_getD, List.getD_eq_getElem?_getD, List.getElem?_append_right (by omega), List.getElem?_append_right (by omega), List.getElem?_append_left (by omega)]
  congr 2; omega
/-- One element on its way up through a run. -/
def upR (L : List α) (x : α) (B Z : List α) (u : Nat) : List α := L ++ (B.take u ++ x :: (B.drop u ++ Z))
theorem upR_step {d : Array α} {L B Z : List α} {x : α} {u : Nat} (h : d.toList = upR L x B Z u) (hu : u < B.length) {i j : Nat} (hi : i = L.length + u) (hj : j = i + 1) : (swp d i j).toList = upR L x B Z (u + 1) := by
  have h2 : d.toList = (L ++ B.take u) ++ x :: ([] ++ B[u] :: (B.drop (u + 1) ++ Z)) := by
    rw [h]; unfold upR
    rw [List.drop_eq_getElem_cons hu]
    simp only [List.append_assoc, List.cons_append, List.nil_append]
  rw [swp_list h2 (by rw [hi]; simp; omega) (by rw [hj, hi]; simp; omega)]
  unfold upR
  rw [List.take_succ_eq_append_getElem hu]
  simp only [List.append_assoc, List.cons_append, List.nil_append]
theorem upR_back {d : Array α} {L B Z : List α} {x : α} {u : Nat} (h : d.toList = upR L x B Z (u + 1)) (hu : u < B.length) {i j : Nat} (hi : i = L.length + u) (hj : j = i + 1) : (swp d j i).toList = upR L x B Z u := by
  have h2 : d.toList = (L ++ B.take u) ++ B[u] :: ([] ++ x :: (B.drop (u + 1) ++ Z)) := by
    rw [h]; unfold upR
    rw [List.take_succ_eq_append_getElem hu]
    simp only [List.append_assoc, List.cons_append, List.nil_append]
  rw [swp_list' h2 (by rw [hi]; simp; omega) (by rw [hj, hi]; simp; omega)]
  unfold upR
  rw [List.drop_eq_getElem_cons hu]
  simp only [List.append_assoc, List.cons_append, List.nil_append]
theorem upR_zero {β : Type} (L : List β) (x : β) (B Z : List β) : upR L x B Z 0 = L ++ ([x] ++ (B ++ Z)) := by simp [upR]
theorem upR_all {β : Type} (L : List β) (x : β) (B Z : List β) : upR L x B Z B.length = L ++ (B ++ ([x] ++ Z)) := by simp [upR]
theorem upR_out {β : Type} (L : List β) (x : β) (B Z : List β) (u : Nat) : upR L x B Z u = L ++ ((B.take u ++ x :: B.drop u) ++ Z) := by simp [upR]
/-- Where a merge parts its runs: what the halves are, and that they make the whole. -/
theorem merge_parts {lt : α → α → Prop} {cf : α → α → Int} (ht : ∀ x y z, lt x y → lt y z → lt x z) {d : Array α} {L A B Z : List α} (hd : d.toList = L ++ (A ++ (B ++ Z))) (h : Mrg lt cf A B)
    {a m b mid n lo hi s e : Nat} (ha : a = L.length) (hm : m = a + A.length) (hb : b = m + B.length) (hn : n = mid + m) (hlo : a ≤ lo) (hls : lo ≤ s) (hsh : s ≤ hi) (hhm : hi ≤ m) (hhi : hi ≤ mid) (hnb : n ≤ lo + b)
    (hLO : lo = a ∨ n = lo + b) (hHI : hi = m ∨ hi = mid) (he : e + s = n)
    (hF : s = lo ∨ ¬ cf d[n - 1 - (s - 1)]! d[s - 1]! < 0) (hT : s = hi ∨ cf d[n - 1 - s]! d[s]! < 0) :
    ∃ A1 A2 B1 B2 : List α, A = A1 ++ A2 ∧ B = B1 ++ B2 ∧ a + A1.length = s ∧ m + B1.length = e ∧ Mrg lt cf A1 B1 ∧ Mrg lt cf A2 B2 ∧ ∀ C1 C2, Out lt A1 B1 C1 → Out lt A2 B2 C2 → Out lt A B (C1 ++ C2) := by
  obtain ⟨u, hu⟩ : ∃ u, s = a + u := ⟨s - a, by omega⟩
  obtain ⟨v, hv⟩ : ∃ v, e = m + v := ⟨e - m, by omega⟩
  refine ⟨A.take u, A.drop u, B.take v, B.drop v, (List.take_append_drop _ _).symm, (List.take_append_drop _ _).symm, by simp; omega, by simp; omega, h.sub (List.take_sublist _ _) (List.take_sublist _ _), h.sub (List.drop_sublist _ _) (List.drop_sublist _ _), fun C1 C2 h1 h2 => ?_⟩
  refine merge3 ht h (u := u) (v := v) (by omega) (by omega) default ?_ ?_ h1 h2
  · rcases Nat.lt_or_ge lo s with hs | hs
    · rcases hF with hF | hF
      · omega
      · rw [at_B hd (t := v) (by omega) (by omega), at_A hd (t := u - 1) (by omega) (by omega)] at hF
        exact .inr (.inr hF)
    · rcases hLO with h9 | h9
      · exact .inl (by omega)
      · exact .inr (.inl (by omega))
  · rcases Nat.lt_or_ge s hi with hs | hs
    · rcases hT with hT | hT
      · omega
      · rw [at_B hd (t := v - 1) (by omega) (by omega), at_A hd (t := u) (by omega) (by omega)] at hT
        exact .inr (.inr hT)
    · rcases hHI with h9 | h9
      · exact .inl (by omega)
      · exact .inr (.inl (by omega))
end
end Go.Proofs.Ythcnmaapcniehaa
