/- Plain laws: the insertion sort keeps the order of equals; sorted stretches of a row and what a merge makes of them. No program is named. -/
import Derived.Test.YthcnmaapcniehaaSymP
import Derived.Shelf.SlSortCmp.Insertion
namespace Go.Proofs.Ythcnmaapcniehaa
open Go.Sort Go.Proofs
set_option linter.unusedVariables false
section
variable {α : Type} [Inhabited α] {lt : α → α → Prop} {cf : α → α → Int} {key : α → Nat}

/-- The places s ≤ p < e ascend. -/
def SortedOn (lt : α → α → Prop) (d : Array α) (s e : Nat) : Prop := ∀ p q, s ≤ p → p < q → q < e → lt d[p]! d[q]!
/-- The places s ≤ p < e hold what stood there at first, in some order. -/
def KeysOn (key : α → Nat) (d : Array α) (s e : Nat) : Prop := ∀ p, s ≤ p → p < e → s ≤ key d[p]! ∧ key d[p]! < e
/-- Who compares a later element with an earlier one hears how they lie. -/
def CmpOk (lt : α → α → Prop) (cf : α → α → Int) (key : α → Nat) : Prop := ∀ x y, key y < key x → (cf x y < 0 ∧ lt x y) ∨ (¬ cf x y < 0 ∧ lt y x)

/-- The insertion's inner loop at place j. -/
structure InsJ (lt : α → α → Prop) (key : α → Nat) (d0 d : Array α) (a j i : Nat) : Prop where
  size : d.size = d0.size
  out : ∀ t, t < a ∨ i < t → d[t]! = d0[t]!
  ky : ∀ t, a ≤ t → t ≤ i → t ≠ j → a ≤ key d[t]! ∧ key d[t]! < i
  kj : key d[j]! = i
  so : ∀ p q, a ≤ p → p < q → q ≤ i → p ≠ j → q ≠ j → lt d[p]! d[q]!
  hi : ∀ q, j < q → q ≤ i → lt d[j]! d[q]!
structure InsD (lt : α → α → Prop) (key : α → Nat) (d0 d : Array α) (a i : Nat) : Prop where
  size : d.size = d0.size
  out : ∀ t, t < a ∨ i ≤ t → d[t]! = d0[t]!
  ky : ∀ t, a ≤ t → t < i → a ≤ key d[t]! ∧ key d[t]! < i
  so : SortedOn lt d a i

theorem InsJ.done (ht : ∀ x y z, lt x y → lt y z → lt x z) {d0 d : Array α} {a j i : Nat} (h : InsJ lt key d0 d a j i) (hai : a ≤ i) (haj : a ≤ j) (hji : j ≤ i) (hs : j = a ∨ lt d[j - 1]! d[j]!) : InsD lt key d0 d a (i + 1) := by
  refine ⟨h.size, fun t ht => h.out t (by omega), fun t h1 h2 => ?_, fun p q h1 h2 h3 => ?_⟩
  · by_cases hj : t = j
    · subst hj; have := h.kj; omega
    · have := h.ky t h1 (by omega) hj; omega
  · by_cases hp : p = j
    · subst hp; exact h.hi q h2 (by omega)
    · by_cases hq : q = j
      · subst hq
        rcases hs with hs | hs
        · omega
        · by_cases hp1 : p = q - 1
          · subst hp1; exact hs
          · exact ht _ _ _ (h.so p (q - 1) h1 (by omega) (by omega) hp (by omega)) hs
      · exact h.so p q h1 h2 (by omega) hp hq

theorem InsJ.step {d0 d : Array α} {a j i : Nat} (h : InsJ lt key d0 d a (j + 1) i) (haj : a < j + 1) (hji : j + 1 ≤ i) (hid : i < d.size) (hl : lt d[j + 1]! d[j]!) : InsJ lt key d0 (swp d (j + 1) j) a j i := by
  have e1 : (swp d (j + 1) j)[j + 1]! = d[j]! := swp_left d (j + 1) j (by omega) (by omega)
  have e2 : (swp d (j + 1) j)[j]! = d[j + 1]! := swp_right d (j + 1) j (by omega)
  have e3 : ∀ k, k ≠ j + 1 → k ≠ j → (swp d (j + 1) j)[k]! = d[k]! := fun k h1 h2 => swp_other d (j + 1) j k h1 h2
  refine ⟨by rw [size_swp]; exact h.size, fun t ht => by rw [e3 t (by omega) (by omega)]; exact h.out t ht, fun t h1 h2 h3 => ?_, by rw [e2]; exact h.kj, fun p q h1 h2 h3 h4 h5 => ?_, fun q h1 h2 => ?_⟩
  · by_cases hj : t = j + 1
    · subst hj; rw [e1]; exact h.ky j (by omega) (by omega) (by omega)
    · rw [e3 t hj h3]; exact h.ky t h1 h2 hj
  · by_cases hp : p = j + 1
    · subst hp
      rw [e1, e3 q (by omega) h5]
      exact h.so j q (by omega) (by omega) h3 (by omega) (by omega)
    · by_cases hq : q = j + 1
      · subst hq
        rw [e1, e3 p hp h4]
        exact h.so p j h1 (by omega) (by omega) hp (by omega)
      · rw [e3 p hp h4, e3 q hq h5]
        exact h.so p q h1 h2 h3 hp hq
  · rw [e2]
    by_cases hq : q = j + 1
    · subst hq; rw [e1]; exact hl
    · rw [e3 q hq (by omega)]; exact h.hi q (by omega) h2

theorem ins_inner (ht : ∀ x y z, lt x y → lt y z → lt x z) (hc : CmpOk lt cf key) {d0 : Array α} {a i : Nat} (hai : a ≤ i) : ∀ (j : Nat) (d : Array α), a ≤ j → j ≤ i → i < d.size → InsJ lt key d0 d a j i → InsD lt key d0 (insInner (ltOf cf) a j d) a (i + 1) := by
  intro j
  induction j with
  | zero => intro d h1 h2 h3 h; exact h.done ht hai h1 h2 (.inl (by omega))
  | succ j ih =>
    intro d h1 h2 h3 h
    unfold insInner
    by_cases haj : a < j + 1
    · have hk : key d[j]! < key d[j + 1]! := by have := h.ky j (by omega) (by omega) (by omega); have := h.kj; omega
      rcases hc _ _ hk with ⟨q1, q2⟩ | ⟨q1, q2⟩
      · have e : (decide (j + 1 > a) && ltOf cf d[j + 1]! d[j]!) = true := by simp [ltOf, q1]; omega
        rw [if_pos e]
        exact ih _ (by omega) (by omega) (by rw [size_swp]; exact h3) (h.step haj h2 h3 q2)
      · have e : ¬ (decide (j + 1 > a) && ltOf cf d[j + 1]! d[j]!) = true := by simp [ltOf]; intro _; omega
        rw [if_neg e]
        exact h.done ht hai h1 h2 (.inr q2)
    · have e : ¬ (decide (j + 1 > a) && ltOf cf d[j + 1]! d[j]!) = true := by simp; intro _; omega
      rw [if_neg e]
      exact h.done ht hai h1 h2 (.inl (by omega))

theorem ins_outer (ht : ∀ x y z, lt x y → lt y z → lt x z) (hc : CmpOk lt cf key) {d0 : Array α} {a b : Nat} (hb : b ≤ d0.size) (h0 : ∀ t, a ≤ t → t < b → key d0[t]! = t) :
    ∀ (m i : Nat) (d : Array α), b - i = m → a < i → i ≤ b → InsD lt key d0 d a i → InsD lt key d0 (insOuter (ltOf cf) a b i d) a b := by
  intro m
  induction m with
  | zero => intro i d hm h1 h2 h; obtain rfl : i = b := by omega
            rw [insOuter_stop _ _ _ _ _ (by omega)]; exact h
  | succ m ih =>
    intro i d hm h1 h2 h
    have hib : i < b := by omega
    rw [insOuter_go _ _ _ _ _ hib]
    have hd : key d[i]! = i := by rw [h.out i (.inr (Nat.le_refl _))]; exact h0 i (by omega) hib
    refine ih (i + 1) _ (by omega) (by omega) (by omega) ?_
    refine ins_inner ht hc (by omega) i d (by omega) (Nat.le_refl _) (by rw [h.size]; omega) ?_
    refine ⟨h.size, fun t ht => h.out t (by omega), fun t h3 h4 h5 => h.ky t h3 (by omega), hd, fun p q h3 h4 h5 h6 h7 => h.so p q h3 h4 (by omega), fun q h3 h4 => by omega⟩

theorem ins_all (ht : ∀ x y z, lt x y → lt y z → lt x z) (hc : CmpOk lt cf key) {d : Array α} {a b : Nat} (hab : a ≤ b) (hb : b ≤ d.size) (h0 : ∀ t, a ≤ t → t < b → key d[t]! = t) : InsD lt key d (Sort.insertionSort (ltOf cf) d a b) a b := by
  unfold Sort.insertionSort
  rcases Nat.lt_or_ge a b with h | h
  · refine ins_outer ht hc hb h0 (b - (a + 1)) (a + 1) d rfl (by omega) h ⟨rfl, fun _ _ => rfl, fun t h1 h2 => ?_, fun p q h1 h2 h3 => by omega⟩
    obtain rfl : t = a := by omega
    have := h0 t h1 (by omega); omega
  · rw [insOuter_stop _ _ _ _ _ (by omega)]
    exact ⟨rfl, fun _ _ => rfl, fun t h1 h2 => by omega, fun p q h1 h2 h3 => by omega⟩

/-! Stretches of a row. -/
theorem seg_split {β : Type} {d : Array β} {a m b : Nat} (h1 : a ≤ m) (h2 : m ≤ b) (h3 : b ≤ d.size) : ∃ L A B Z : List β, d.toList = L ++ (A ++ (B ++ Z)) ∧ L.length = a ∧ A.length = m - a ∧ B.length = b - m := by
  have hl : d.toList.length = d.size := by simp
  refine ⟨d.toList.take a, (d.toList.drop a).take (m - a), (d.toList.drop m).take (b - m), d.toList.drop b, ?_, by simp; omega, by simp; omega, by simp; omega⟩
  have e1 : (d.toList.drop m).take (b - m) ++ d.toList.drop b = d.toList.drop m := by
    have := List.take_append_drop (b - m) (d.toList.drop m)
    rw [List.drop_drop, show m + (b - m) = b by omega] at this
    exact this
  have e2 : (d.toList.drop a).take (m - a) ++ d.toList.drop m = d.toList.drop a := by
    have := List.take_append_drop (m - a) (d.toList.drop a)
    rw [List.drop_drop, show a + (m - a) = m by omega] at this
    exact this
  rw [e1, e2, List.take_append_drop]
theorem pair_of {d : Array α} {X : List α} {s e : Nat} (hX : X.length = e - s) (hg : ∀ t, t < X.length → d[s + t]! = X.getD t default) (h : SortedOn lt d s e) : X.Pairwise lt := by
  refine List.pairwise_iff_getElem.2 fun i j hi hj hij => ?_
  have := h (s + i) (s + j) (by omega) (by omega) (by omega)
  rw [hg i hi, hg j hj, List.getD_eq_getElem?_getD, List.getD_eq_getElem?_getD, List.getElem?_eq_getElem hi, List.getElem?_eq_getElem hj] at this
  exact this
theorem mrg_of (hc : CmpOk lt cf key) {d : Array α} {L A B Z : List α} {a m b : Nat} (hd : d.toList = L ++ (A ++ (B ++ Z))) (hL : L.length = a) (hA : A.length = m - a) (hB : B.length = b - m) (ham : a ≤ m) (hmb : m ≤ b)
    (s1 : SortedOn lt d a m) (s2 : SortedOn lt d m b) (k1 : KeysOn key d a m) (k2 : KeysOn key d m b) : Mrg lt cf A B := by
  have gA : ∀ t, t < A.length → d[a + t]! = A.getD t default := fun t h => at_A hd (by omega) h
  have gB : ∀ t, t < B.length → d[m + t]! = B.getD t default := fun t h => at_B hd (by omega) h
  refine ⟨pair_of hA gA s1, pair_of hB gB s2, fun y hy x hx => hc x y ?_⟩
  obtain ⟨i, hi, rfl⟩ := List.getElem_of_mem hy
  obtain ⟨j, hj, rfl⟩ := List.getElem_of_mem hx
  have e1 : A[i] = d[a + i]! := by rw [gA i hi, List.getD_eq_getElem?_getD, List.getElem?_eq_getElem hi]; rfl
  have e2 : B[j] = d[m + j]! := by rw [gB j hj, List.getD_eq_getElem?_getD, List.getElem?_eq_getElem hj]; rfl
  rw [e1, e2]
  have := k1 (a + i) (by omega) (by omega)
  have := k2 (m + j) (by omega) (by omega)
  omega
/-- What lies behind a merge. -/
theorem merged {d d' : Array α} {L A B C Z : List α} {a m b : Nat} (hd : d.toList = L ++ (A ++ (B ++ Z))) (hd' : d'.toList = L ++ (C ++ Z)) (hL : L.length = a) (hA : A.length = m - a) (hB : B.length = b - m) (ham : a ≤ m) (hmb : m ≤ b)
    (k1 : KeysOn key d a m) (k2 : KeysOn key d m b) (hO : Out lt A B C) : (∀ t, t < a ∨ b ≤ t → d'[t]! = d[t]!) ∧ SortedOn lt d' a b ∧ KeysOn key d' a b := by
  have hC : C.length = b - a := by have := hO.2.1; omega
  have gA : ∀ t, t < A.length → d[a + t]! = A.getD t default := fun t h => at_A hd (by omega) h
  have gB : ∀ t, t < B.length → d[m + t]! = B.getD t default := fun t h => at_B hd (by omega) h
  have gC : ∀ t, t < C.length → d'[a + t]! = C.getD t default := fun t h => at_A (B := []) (Z := Z) (by simpa using hd') (by omega) h
  refine ⟨fun t ht => ?_, fun p q h1 h2 h3 => ?_, fun p h1 h2 => ?_⟩
  · rw [arr_at hd, arr_at hd', List.getD_eq_getElem?_getD, List.getD_eq_getElem?_getD]
    rcases ht with ht | ht
    · rw [List.getElem?_append_left (by omega), List.getElem?_append_left (by omega)]
    · rw [List.getElem?_append_right (by omega), List.getElem?_append_right (by omega), List.getElem?_append_right (by omega), List.getElem?_append_right (by omega), List.getElem?_append_right (by omega)]
      congr 2; omega
  · have e1 := gC (p - a) (by omega)
    have e2 := gC (q - a) (by omega)
    rw [show a + (p - a) = p by omega] at e1
    rw [show a + (q - a) = q by omega] at e2
    rw [e1, e2]
    exact pair_getD hO.1 (by omega) (by omega) default
  · have e1 := gC (p - a) (by omega)
    rw [show a + (p - a) = p by omega] at e1
    have hm := getD_mem' (l := C) (i := p - a) (by omega) (default : α)
    rw [← e1] at hm
    rcases hO.2.2 _ hm with hx | hx
    · obtain ⟨i, hi, e⟩ := List.getElem_of_mem hx
      have e9 : A[i] = d[a + i]! := by rw [gA i hi, List.getD_eq_getElem?_getD, List.getElem?_eq_getElem hi]; rfl
      rw [← e, e9]
      have := k1 (a + i) (by omega) (by omega)
      omega
    · obtain ⟨i, hi, e⟩ := List.getElem_of_mem hx
      have e9 : B[i] = d[m + i]! := by rw [gB i hi, List.getD_eq_getElem?_getD, List.getElem?_eq_getElem hi]; rfl
      rw [← e, e9]
      have := k2 (m + i) (by omega) (by omega)
      omega

/-- A sorted stretch that holds what stood there at first. -/
def Seg (lt : α → α → Prop) (key : α → Nat) (d : Array α) (s e : Nat) : Prop := SortedOn lt d s e ∧ KeysOn key d s e
theorem Seg.of_same {d d' : Array α} {s e : Nat} (h : Seg lt key d s e) (hs : ∀ t, s ≤ t → t < e → d'[t]! = d[t]!) : Seg lt key d' s e :=
  ⟨fun p q h1 h2 h3 => by rw [hs p h1 (by omega), hs q (by omega) h3]; exact h.1 p q h1 h2 h3, fun p h1 h2 => by rw [hs p h1 h2]; exact h.2 p h1 h2⟩
theorem Seg.cut {d : Array α} {s e e' : Nat} (h : Seg lt key d s e) (he : e = e') : Seg lt key d s e' := he ▸ h
/-- While the blocks are being sorted: those ahead of a are, from a on all is as it was. -/
def Blk1 (lt : α → α → Prop) (key : α → Nat) (d : Array α) (a n : Nat) : Prop := (∀ s, s % 20 = 0 → s + 20 ≤ a → Seg lt key d s (s + 20)) ∧ ∀ t, a ≤ t → t < n → key d[t]! = t
/-- All blocks of c elements are sorted. -/
def Blk2 (lt : α → α → Prop) (key : α → Nat) (d : Array α) (c n : Nat) : Prop := ∀ s, s % c = 0 → s < n → Seg lt key d s (min (s + c) n)
/-- While blocks are being merged two by two: those ahead of a are. -/
def Blk3 (lt : α → α → Prop) (key : α → Nat) (d : Array α) (c a n : Nat) : Prop := (∀ s, s % (2 * c) = 0 → s + 2 * c ≤ a → Seg lt key d s (s + 2 * c)) ∧ ∀ s, s % c = 0 → a ≤ s → s < n → Seg lt key d s (min (s + c) n)
theorem InsD.seg {d d' : Array α} {a b : Nat} (h : InsD lt key d d' a b) : Seg lt key d' a b := ⟨h.so, h.ky⟩

theorem Blk1.next {d d' : Array α} {a n : Nat} (h : Blk1 lt key d a n) (ha : a % 20 = 0) (hI : InsD lt key d d' a (a + 20)) : Blk1 lt key d' (a + 20) n := by
  refine ⟨fun s h1 h2 => ?_, fun t h1 h2 => by rw [hI.out t (by omega)]; exact h.2 t (by omega) h2⟩
  by_cases hs : s = a
  · subst hs; exact hI.seg
  · exact (h.1 s h1 (by omega)).of_same fun t h3 h4 => hI.out t (by omega)
theorem Blk1.last {d d' : Array α} {a n : Nat} (h : Blk1 lt key d a n) (ha : a % 20 = 0) (han0 : a ≤ n) (han : n < a + 20) (hI : InsD lt key d d' a n) : Blk2 lt key d' 20 n := by
  intro s h1 h2
  by_cases hs : s = a
  · subst hs; exact hI.seg.cut (by omega)
  · exact ((h.1 s h1 (by omega)).of_same fun t h3 h4 => hI.out t (by omega)).cut (by omega)
theorem Blk3.start {d : Array α} {c n : Nat} (h : Blk2 lt key d c n) (hc : 0 < c) : Blk3 lt key d c 0 n := ⟨fun s h1 h2 => by omega, fun s h1 _ h3 => h s h1 h3⟩
theorem Blk3.next {d d' : Array α} {c a n : Nat} (hc : c = 20 ∨ c = 40) (h : Blk3 lt key d c a n) (ha : a % (2 * c) = 0) (han : a + 2 * c ≤ n) (hs : ∀ t, t < a ∨ a + 2 * c ≤ t → d'[t]! = d[t]!) (hI : Seg lt key d' a (a + 2 * c)) : Blk3 lt key d' c (a + 2 * c) n := by
  refine ⟨fun s h1 h2 => ?_, fun s h1 h2 h3 => (h.2 s h1 (by omega) h3).of_same fun t h4 h5 => hs t (by omega)⟩
  by_cases e : s = a
  · subst e; exact hI
  · refine (h.1 s h1 ?_).of_same fun t h3 h4 => hs t ?_
    · rcases hc with rfl | rfl <;> omega
    · rcases hc with rfl | rfl <;> omega
theorem Blk3.last {d d' : Array α} {c a n : Nat} (hc : c = 20 ∨ c = 40) (h : Blk3 lt key d c a n) (ha : a % (2 * c) = 0) (han0 : a ≤ n) (han : n < a + 2 * c) (hs : ∀ t, t < a ∨ n ≤ t → d'[t]! = d[t]!) (hI : a < n → Seg lt key d' a n) : Blk2 lt key d' (2 * c) n := by
  intro s h1 h2
  by_cases e : s = a
  · subst e; exact (hI h2).cut (by omega)
  · have hsa : s + 2 * c ≤ a := by rcases hc with rfl | rfl <;> omega
    exact ((h.1 s h1 hsa).of_same fun t h3 h4 => hs t (by omega)).cut (by omega)
theorem Blk2.all {d : Array α} {c n : Nat} (h : Blk2 lt key d c n) (hn : n ≤ c) : SortedOn lt d 0 n := by
  intro p q h1 h2 h3
  have := h 0 (by simp) (by omega)
  rw [show min (0 + c) n = n by omega] at this
  exact this.1 p q h1 h2 h3
end
end Go.Proofs.Ythcnmaapcniehaa
