/- The plain laws of masks, thresholds and sorting networks of at most six wires. No program is named. -/
import Derived.Test.YtldhbbbkfnfhoaaAppNet2
import Derived.Test.YtldhbbbkfnfhoaaMasks
import Derived.Test.YtldhbbbkfnfhoaaFailing
import Derived.Test.YtldhbbbkfnfhoaaResOf
import Derived.Test.YtldhbbbkfnfhoaaRises
import Derived.Test.YtldhbbbkfnfhoaaStdD
namespace Go.Proofs.Ytldhbbbkfnfhoaa
open Go.RowKit
set_option linter.unusedVariables false

theorem thr_bit (xs : List Int) (t : Int) : ∀ k, k ≤ xs.length → ∀ i, i < k → (thrTo xs t k).testBit i = decide (t ≤ xs.getD i 0) := by
  intro k
  induction k with
  | zero => intro _ i h; cases h
  | succ k ih =>
    intro hk i hi
    have hlt : k < xs.length := by omega
    have hx := thrTo_lt xs t k
    have hg : xs.getD k 0 = xs[k] := by rw [List.getD_eq_getElem?_getD, List.getElem?_eq_getElem hlt]; rfl
    by_cases h : t ≤ xs[k]
    · rw [thrTo_yes hlt h, Nat.add_comm]
      rcases Nat.lt_or_ge i k with h1 | h1
      · rw [Nat.testBit_two_pow_add_gt h1, ih (by omega) i h1]
      · obtain rfl : i = k := by omega
        rw [Nat.testBit_two_pow_add_eq, Nat.testBit_lt_two_pow hx, hg]
        simp [h]
    · rw [thrTo_no hlt (by omega)]
      rcases Nat.lt_or_ge i k with h1 | h1
      · rw [ih (by omega) i h1]
      · obtain rfl : i = k := by omega
        rw [Nat.testBit_lt_two_pow hx, hg]
        simp; omega
theorem bit_ext {n a b : Nat} (ha : a < 2 ^ n) (hb : b < 2 ^ n) (h : ∀ i, i < n → a.testBit i = b.testBit i) : a = b := by
  apply Nat.eq_of_testBit_eq
  intro i
  rcases Nat.lt_or_ge i n with h1 | h1
  · exact h i h1
  · have h2 : 2 ^ n ≤ 2 ^ i := Nat.pow_le_pow_right (by decide) h1
    rw [Nat.testBit_lt_two_pow (by omega), Nat.testBit_lt_two_pow (by omega)]
theorem step_bit_all : ∀ m : Fin 64, ∀ i : Fin 6, ∀ k : Fin 6, ∀ j : Fin 6, i ≠ k → (stepN m.val i.val k.val).testBit j.val = if j = i then (m.val.testBit i.val && m.val.testBit k.val) else if j = k then (m.val.testBit i.val || m.val.testBit k.val) else m.val.testBit j.val := by decide +kernel
theorem pow64 {n : Nat} (h : n ≤ 6) : 2 ^ n ≤ 64 := Nat.pow_le_pow_right (n := 2) (by omega) h
theorem step_bit {n m i k : Nat} (hn : n ≤ 6) (hm : m < 2 ^ n) (hi : i < n) (hk : k < n) (h : i ≠ k) (j : Nat) (hj : j < n) : (stepN m i k).testBit j = if j = i then (m.testBit i && m.testBit k) else if j = k then (m.testBit i || m.testBit k) else m.testBit j := by
  have h6 := pow64 hn
  have := step_bit_all ⟨m, by omega⟩ ⟨i, by omega⟩ ⟨k, by omega⟩ ⟨j, by omega⟩ (by simpa using h)
  simpa [Fin.ext_iff] using this
theorem apStep_at {l : List Int} {p : Nat × Nat} (h1 : p.1 < l.length) (h2 : p.2 < l.length) (h : p.1 ≠ p.2) (j : Nat) : (apStep l p).getD j 0 = if j = p.1 then min (l.getD p.1 0) (l.getD p.2 0) else if j = p.2 then max (l.getD p.1 0) (l.getD p.2 0) else l.getD j 0 := by
  unfold apStep
  rw [getD_set' _ _ _ _ (by simpa using h2), getD_set' _ _ _ _ h1]
  by_cases e1 : j = p.1
  · rw [if_neg (by omega), if_pos e1, if_pos e1]
  · by_cases e2 : j = p.2
    · rw [if_pos e2, if_neg e1, if_pos e2]
    · rw [if_neg e2, if_neg e1, if_neg e1, if_neg e2]
theorem apStep_length (l : List Int) (p : Nat × Nat) : (apStep l p).length = l.length := by unfold apStep; simp
theorem thr_step {n : Nat} {l : List Int} {p : Nat × Nat} (t : Int) (hn : n ≤ 6) (hl : l.length = n) (h1 : p.1 < n) (h2 : p.2 < n) (h : p.1 ≠ p.2) : thrTo (apStep l p) t n = stepN (thrTo l t n) p.1 p.2 := by
  have hx := thrTo_lt l t n
  refine bit_ext (thrTo_lt _ _ _) (stepN_pow n _ _ _ (by omega) hx h1 h2) fun j hj => ?_
  rw [thr_bit _ _ n (by rw [apStep_length]; omega) j hj, step_bit hn hx h1 h2 h j hj, apStep_at (by omega) (by omega) h]
  rw [thr_bit l t n (by omega) p.1 h1, thr_bit l t n (by omega) p.2 h2, thr_bit l t n (by omega) j hj]
  by_cases e1 : j = p.1
  · rw [if_pos e1, if_pos e1, ← Bool.decide_and]
    exact decide_eq_decide.2 (by omega)
  · rw [if_neg e1, if_neg e1]
    by_cases e2 : j = p.2
    · rw [if_pos e2, if_pos e2, ← Bool.decide_or]
      exact decide_eq_decide.2 (by omega)
    · rw [if_neg e2, if_neg e2]
/-- Lists follow their thresholds. -/
theorem thr_net {n : Nat} {ps : List (Nat × Nat)} {xs : List Int} (t : Int) (hn : n ≤ 6) (hp : PsOk n ps) (hl : xs.length = n) : thrTo (apL ps xs) t n = bitsN ps (thrTo xs t n) := by
  have key : ∀ k, k ≤ ps.length → thrTo (apTo ps xs k) t n = bitsN (ps.take k) (thrTo xs t n) := by
    intro k
    induction k with
    | zero => intro _; rfl
    | succ k ih =>
      intro hk
      have hlt : k < ps.length := by omega
      have := hp.2.2.2 k hlt
      rw [apTo_succ ps xs k hlt, bitsN_snoc ps _ k hlt, ← ih (by omega)]
      exact thr_step t hn (by rw [apTo_length, hl]) this.1 this.2.1 this.2.2
  have := key ps.length (Nat.le_refl _)
  rwa [List.take_length] at this
/-- A mask whose ones lie above its zeros. -/
def upB (n m : Nat) : Bool := (List.range (n - 1)).all fun i => !m.testBit i || m.testBit (i + 1)
theorem up_all : ∀ n : Fin 7, ∀ m : Fin 64, m.val < 2 ^ n.val → (upB n.val m.val = true ↔ (m.val : Int) = sortedN n.val (onesN m.val)) := by decide +kernel
theorem up_iff {n m : Nat} (hn : n ≤ 6) (hm : m < 2 ^ n) : upB n m = true ↔ (m : Int) = sortedN n (onesN m) := by
  have h6 := pow64 hn
  exact up_all ⟨n, by omega⟩ ⟨m, by omega⟩ hm
theorem upB_iff (n m : Nat) : upB n m = true ↔ ∀ i, i + 1 < n → m.testBit i = true → m.testBit (i + 1) = true := by
  unfold upB
  rw [List.all_eq_true]
  constructor
  · intro h i hi hb
    have := h i (by simp; omega)
    rw [hb] at this; simpa using this
  · intro h i hi
    have hi2 : i < n - 1 := by simpa using hi
    have := h i (by omega)
    cases hb : m.testBit i with
    | false => rfl
    | true => rw [this hb]; rfl
theorem rises_up {n : Nat} {xs : List Int} (t : Int) (hl : xs.length = n) (h : RisesP xs) : upB n (thrTo xs t n) = true := by
  rw [upB_iff]
  intro i hi hb
  rw [thr_bit xs t n (by omega) i (by omega)] at hb
  rw [thr_bit xs t n (by omega) (i + 1) hi]
  have := h i (by omega)
  have hb2 := of_decide_eq_true hb
  exact decide_eq_true (by omega)
theorem up_rises {n : Nat} {xs : List Int} (hl : xs.length = n) (h : ∀ t, upB n (thrTo xs t n) = true) : RisesP xs := by
  intro i hi
  by_cases hc : xs.getD i 0 ≤ xs.getD (i + 1) 0
  · exact hc
  · have := (upB_iff _ _).1 (h (xs.getD i 0)) i (by omega)
    rw [thr_bit xs _ n (by omega) i (by omega), thr_bit xs _ n (by omega) (i + 1) (by omega)] at this
    have := of_decide_eq_true (this (decide_eq_true (Int.le_refl _)))
    exact absurd this hc
theorem bad_iff {n : Nat} {ps : List (Nat × Nat)} (hn : n ≤ 6) (hp : PsOk n ps) {m : Nat} (hm : m < 2 ^ n) : badB n ps m = false ↔ upB n (bitsN ps m) = true := by
  have h6 := pow64 hn
  have h1 := bitsN_pow hp m hm
  have h2 := onesN_bitsN hp m (by omega)
  rw [up_iff hn h1, h2]
  unfold badB
  rw [bne_eq_false_iff_eq]
theorem mem_badI {N : Nat} {ps : List (Nat × Nat)} {k : Nat} {x : Int} : x ∈ badI N ps k ↔ ∃ m : Nat, m < k ∧ badB N ps m = true ∧ x = (m : Int) := by
  unfold badI
  simp only [List.mem_map, List.mem_filter, List.mem_range]
  constructor
  · rintro ⟨m, ⟨h1, h2⟩, rfl⟩; exact ⟨m, h1, h2, rfl⟩
  · rintro ⟨m, h1, h2, rfl⟩; exact ⟨m, ⟨h1, h2⟩, rfl⟩
theorem sorts_iff {n : Nat} {ps : List (Nat × Nat)} : badI n ps (2 ^ n) = [] ↔ ∀ m, m < 2 ^ n → badB n ps m = false := by
  constructor
  · intro h m hm
    cases hb : badB n ps m with
    | false => rfl
    | true =>
      have : (m : Int) ∈ badI n ps (2 ^ n) := mem_badI.2 ⟨m, hm, hb, rfl⟩
      rw [h] at this; cases this
  · intro h
    cases hb : badI n ps (2 ^ n) with
    | nil => rfl
    | cons x l =>
      obtain ⟨m, h1, h2, _⟩ := mem_badI.1 (show x ∈ badI n ps (2 ^ n) by rw [hb]; simp)
      rw [h m h1] at h2; cases h2
/-- A network that sorts all masks sorts all lists. -/
theorem sort_rises {n : Nat} {ps : List (Nat × Nat)} {xs : List Int} (hn : n ≤ 6) (hp : PsOk n ps) (hs : badI n ps (2 ^ n) = []) (hl : xs.length = n) : RisesP (apL ps xs) := by
  refine up_rises (by rw [apL_length, hl]) fun t => ?_
  rw [thr_net t hn hp hl]
  exact (bad_iff hn hp (thrTo_lt _ _ _)).1 (sorts_iff.1 hs _ (thrTo_lt _ _ _))
theorem fail_all : ∀ n : Fin 7, ∀ m : Fin 64, m.val < 2 ^ n.val → thrTo (failTo n.val m.val n.val) ((n.val : Int) - (onesN m.val : Int)) n.val = m.val := by decide +kernel
/-- The list that an unsorted mask gives is not sorted. -/
theorem bad_fails {n m : Nat} {ps : List (Nat × Nat)} (hn : n ≤ 6) (hp : PsOk n ps) (hm : m < 2 ^ n) (hb : badB n ps m = true) : ¬ RisesP (apL ps (failTo n m n)) := fun hr => by
  have h6 := pow64 hn
  have h1 := rises_up ((n : Int) - (onesN m : Int)) (show (apL ps (failTo n m n)).length = n by rw [apL_length, failTo_length]) hr
  rw [thr_net _ hn hp (failTo_length n m n), fail_all ⟨n, by omega⟩ ⟨m, by omega⟩ hm, ← bad_iff hn hp hm, hb] at h1
  cases h1
theorem apStep_perm {l : List Int} {p : Nat × Nat} (h1 : p.1 < l.length) (h2 : p.2 < l.length) (h : p.1 ≠ p.2) : (apStep l p).Perm l := by
  have e1 : l.getD p.1 0 = l[p.1] := by rw [List.getD_eq_getElem?_getD, List.getElem?_eq_getElem h1]; rfl
  have e2 : l.getD p.2 0 = l[p.2] := by rw [List.getD_eq_getElem?_getD, List.getElem?_eq_getElem h2]; rfl
  unfold apStep
  rw [e1, e2]
  by_cases hc : l[p.1] ≤ l[p.2]
  · rw [Int.min_eq_left hc, Int.max_eq_right hc, List.set_getElem_self, List.set_getElem_self]
  · rw [Int.min_eq_right (by omega), Int.max_eq_left (by omega)]
    exact List.set_set_perm h1 h2
theorem apL_perm {n : Nat} {ps : List (Nat × Nat)} {xs : List Int} (hp : PsOk n ps) (hl : xs.length = n) : (apL ps xs).Perm xs := by
  have key : ∀ k, k ≤ ps.length → (apTo ps xs k).Perm xs := by
    intro k
    induction k with
    | zero => intro _; exact List.Perm.refl _
    | succ k ih =>
      intro hk
      have hlt : k < ps.length := by omega
      have := hp.2.2.2 k hlt
      rw [apTo_succ ps xs k hlt]
      have hl2 := apTo_length ps xs k
      exact (apStep_perm (by omega) (by omega) this.2.2).trans (ih (by omega))
  exact key ps.length (Nat.le_refl _)

theorem upto_fix_all : ∀ n : Fin 7, ∀ m : Fin 64, m.val < 2 ^ n.val → ((onesN m.val = 0 → m.val = 0) ∧ (onesN m.val = n.val → m.val = 2 ^ n.val - 1)) := by decide +kernel
theorem zero_up (n : Nat) : upB n 0 = true := (upB_iff _ _).2 fun i _ h => by simp at h
theorem full_up_all : ∀ n : Fin 7, upB n.val (2 ^ n.val - 1) = true ∧ onesN (2 ^ n.val - 1) = n.val := by decide +kernel
theorem bits_zero {n : Nat} {ps : List (Nat × Nat)} (hn : n ≤ 6) (hp : PsOk n ps) : bitsN ps 0 = 0 := by
  have h6 := pow64 hn
  have h0 : 0 < 2 ^ n := Nat.two_pow_pos n
  have h1 := bitsN_pow hp 0 h0
  exact (upto_fix_all ⟨n, by omega⟩ ⟨bitsN ps 0, by omega⟩ h1).1 (onesN_bitsN hp 0 (by omega))
theorem bits_full {n : Nat} {ps : List (Nat × Nat)} (hn : n ≤ 6) (hp : PsOk n ps) : bitsN ps (2 ^ n - 1) = 2 ^ n - 1 := by
  have h6 := pow64 hn
  have h0 : 0 < 2 ^ n := Nat.two_pow_pos n
  have h1 := bitsN_pow hp (2 ^ n - 1) (by omega)
  exact (upto_fix_all ⟨n, by omega⟩ ⟨bitsN ps (2 ^ n - 1), by omega⟩ h1).2 ((onesN_bitsN hp _ (by omega)).trans (full_up_all ⟨n, by omega⟩).2)
theorem cnt_all : ∀ n : Fin 7, 1 ≤ n.val → ((List.range (2 ^ n.val)).filter fun m => m != 0 && m != 2 ^ n.val - 1).length = 2 ^ n.val - 2 ∧ ((List.range (2 ^ n.val)).filter fun m => !upB n.val m).length = 2 ^ n.val - n.val - 1 ∧ ((List.range (2 ^ n.val)).filter fun m => upB n.val m).length = n.val + 1 := by decide +kernel
theorem filter_len {α : Type} {l : List α} {p q : α → Bool} (h : ∀ x ∈ l, p x = true → q x = true) : (l.filter p).length ≤ (l.filter q).length := by
  rw [← List.countP_eq_length_filter, ← List.countP_eq_length_filter]
  exact List.countP_mono_left h
theorem filter_eq {α : Type} {p q : α → Bool} : ∀ {l : List α}, (∀ x ∈ l, p x = true → q x = true) → (l.filter p).length = (l.filter q).length → ∀ x ∈ l, q x = true → p x = true := by
  intro l
  induction l with
  | nil => intro _ _ x hx; cases hx
  | cons a l ih =>
    intro h hl x hx hq
    have hle := filter_len (l := l) (p := p) (q := q) fun y hy => h y (by simp [hy])
    have ha := h a (by simp)
    have key : (l.filter p).length = (l.filter q).length ∧ (q a = true → p a = true) := by
      cases hp : p a with
      | true =>
        have hqa := ha hp
        rw [List.filter_cons_of_pos hp, List.filter_cons_of_pos hqa] at hl
        simp at hl
        exact ⟨hl, fun _ => rfl⟩
      | false =>
        cases hqa : q a with
        | true =>
          rw [List.filter_cons_of_neg (by simp [hp]), List.filter_cons_of_pos hqa] at hl
          simp at hl; omega
        | false =>
          rw [List.filter_cons_of_neg (by simp [hp]), List.filter_cons_of_neg (by simp [hqa])] at hl
          exact ⟨hl, fun h => by cases h⟩
    rcases List.mem_cons.1 hx with rfl | hx
    · exact key.2 hq
    · exact ih (fun y hy => h y (by simp [hy])) key.1 x hx hq
theorem badI_length (N : Nat) (ps : List (Nat × Nat)) (k : Nat) : (badI N ps k).length = ((List.range k).filter (badB N ps)).length := by unfold badI; rw [List.length_map]
theorem cnt_le {n : Nat} {ps : List (Nat × Nat)} (hn : n ≤ 6) (hp : PsOk n ps) : (badI n ps (2 ^ n)).length ≤ 2 ^ n - 2 := by
  have h0 : 0 < 2 ^ n := Nat.two_pow_pos n
  rw [badI_length, ← (cnt_all ⟨n, by omega⟩ hp.1).1]
  refine filter_len fun m hm hb => ?_
  have hm2 : m < 2 ^ n := by simpa using hm
  by_cases e1 : m = 0
  · subst e1
    rw [(bad_iff hn hp h0).2 (by rw [bits_zero hn hp]; exact zero_up n)] at hb; cases hb
  · by_cases e2 : m = 2 ^ n - 1
    · subst e2
      rw [(bad_iff hn hp (by omega)).2 (by rw [bits_full hn hp]; exact (full_up_all ⟨n, by omega⟩).1)] at hb; cases hb
    · simp [e1, e2]
theorem step_up {n m i k : Nat} (hm : upB n m = true) (hik : i < k) (hk : k < n) : stepN m i k = m := by
  have key : ∀ d, i + d < n → m.testBit i = true → m.testBit (i + d) = true := by
    intro d
    induction d with
    | zero => intro _ h; exact h
    | succ d ih => intro hd h; exact (upB_iff n m).1 hm (i + d) (by omega) (ih (by omega) h)
  unfold stepN
  by_cases h : m / 2 ^ i % 2 = 1 ∧ m / 2 ^ k % 2 = 0
  · exfalso
    have h1 : m.testBit i = true := by rw [Nat.testBit_eq_decide_div_mod_eq]; exact decide_eq_true h.1
    have h2 := key (k - i) (by omega) h1
    rw [show i + (k - i) = k by omega, Nat.testBit_eq_decide_div_mod_eq] at h2
    have := of_decide_eq_true h2
    omega
  · rw [if_neg h]
/-- In a standard network the sorted masks stay. -/
theorem std_fix {n m : Nat} {ps : List (Nat × Nat)} (hp : PsOk n ps) (hs : ¬ SomeP GtP ps) (hm : upB n m = true) : bitsN ps m = m := by
  have key : ∀ k, k ≤ ps.length → bitsN (ps.take k) m = m := by
    intro k
    induction k with
    | zero => intro _; rfl
    | succ k ih =>
      intro hk
      have hlt : k < ps.length := by omega
      have h3 := hp.2.2.2 k hlt
      have h4 : ¬ ps[k].2 < ps[k].1 := fun h => hs ⟨k, hlt, h⟩
      rw [bitsN_snoc ps _ k hlt, ih (by omega)]
      exact step_up hm (by omega) h3.2.1
  have := key ps.length (Nat.le_refl _)
  rwa [List.take_length] at this
theorem std_cnt {n : Nat} {ps : List (Nat × Nat)} (hn : n ≤ 6) (hp : PsOk n ps) (hs : ¬ SomeP GtP ps) : (badI n ps (2 ^ n)).length ≤ 2 ^ n - n - 1 := by
  rw [badI_length, ← (cnt_all ⟨n, by omega⟩ hp.1).2.1]
  refine filter_len fun m hm hb => ?_
  have hm2 : m < 2 ^ n := by simpa using hm
  cases hu : upB n m with
  | false => rfl
  | true => rw [(bad_iff hn hp hm2).2 (by rw [std_fix hp hs hu]; exact hu)] at hb; cases hb
def resB (n : Nat) (ps : List (Nat × Nat)) (i : Nat) : Bool := decide ((i : Int) ∈ mapF (bitsN ps) (upto (2 ^ n)))
theorem resB_iff (n : Nat) (ps : List (Nat × Nat)) (i : Nat) : resB n ps i = true ↔ ∃ m, m < 2 ^ n ∧ bitsN ps m = i := by
  unfold resB mapF upto
  rw [decide_eq_true_iff]
  simp only [List.map_map, List.mem_map, List.mem_range, Function.comp_apply, Int.toNat_natCast]
  constructor
  · rintro ⟨m, h1, h2⟩; exact ⟨m, h1, by omega⟩
  · rintro ⟨m, h1, h2⟩; exact ⟨m, h1, by omega⟩
theorem res_length {N : Nat} {rows : List (List Int)} (h : NetP N rows) : (resN N rows).length = ((List.range (2 ^ N)).filter (resB N (pairsOf rows))).length := by
  unfold resN
  rw [onlyI_yes h]
  unfold imgL
  rw [List.length_map, Int.toNat_natCast]
  rfl
theorem res_up {n : Nat} {ps : List (Nat × Nat)} (hn : n ≤ 6) (hp : PsOk n ps) (hs : badI n ps (2 ^ n) = []) (i : Nat) (hi : i < 2 ^ n) : resB n ps i = upB n i := by
  have h6 := pow64 hn
  apply Bool.eq_iff_iff.2
  rw [resB_iff]
  constructor
  · rintro ⟨m, hm, rfl⟩
    exact (bad_iff hn hp hm).1 (sorts_iff.1 hs m hm)
  · intro hu
    refine ⟨i, hi, ?_⟩
    have h1 := (up_iff hn (bitsN_pow hp i hi)).1 ((bad_iff hn hp hi).1 (sorts_iff.1 hs i hi))
    rw [onesN_bitsN hp i (by omega), ← (up_iff hn hi).1 hu] at h1
    omega
theorem res_sort {n : Nat} {ps : List (Nat × Nat)} (hn : n ≤ 6) (hp : PsOk n ps) (hs : badI n ps (2 ^ n) = []) : ((List.range (2 ^ n)).filter (resB n ps)).length = n + 1 := by
  rw [← (cnt_all ⟨n, by omega⟩ hp.1).2.2]
  congr 1
  exact List.filter_congr fun i hi => res_up hn hp hs i (by simpa using hi)
theorem up_res {n : Nat} {ps : List (Nat × Nat)} (hp : PsOk n ps) (hs : ¬ SomeP GtP ps) (i : Nat) (hi : i < 2 ^ n) (hu : upB n i = true) : resB n ps i = true := (resB_iff _ _ _).2 ⟨i, hi, std_fix hp hs hu⟩
theorem std_sort {n : Nat} {ps : List (Nat × Nat)} (hn : n ≤ 6) (hp : PsOk n ps) (hs : ¬ SomeP GtP ps) (hl : ((List.range (2 ^ n)).filter (resB n ps)).length = n + 1) : badI n ps (2 ^ n) = [] := by
  rw [← (cnt_all ⟨n, by omega⟩ hp.1).2.2] at hl
  have h := filter_eq (l := List.range (2 ^ n)) (p := fun m => upB n m) (q := resB n ps) (fun i hi hu => up_res hp hs i (by simpa using hi) hu) hl.symm
  refine sorts_iff.2 fun m hm => (bad_iff hn hp hm).2 ?_
  exact h (bitsN ps m) (by simpa using bitsN_pow hp m hm) ((resB_iff _ _ _).2 ⟨m, hm, rfl⟩)
end Go.Proofs.Ytldhbbbkfnfhoaa
