/- The plain law of reading a network: what the text must be, and what splitting and cutting it give. No program is named. -/
import Derived.Test.YtpgccaibcpiakaaDoorFmtN
import Derived.Lib.SplitLaws
import Derived.Lib.CutLaws
namespace Go.Proofs.YtpgccaibcpiakaaDoor
open Go.RowKit
set_option linter.unusedVariables false

/-- The digit that the byte at k stands for. -/
def bI (t : ByteArray) (k : Nat) : Int := ((t.data.toList.getD k 0).toNat : Int) - 48
theorem bI_at {t : ByteArray} {k : Nat} (h : k < t.size) : bI t k = (t[k].toNat : Int) - 48 := by
  unfold bI
  rw [List.getD_eq_getElem?_getD, List.getElem?_eq_getElem (by simpa using h)]
  rfl
/-- The first k pairs that a text spells. -/
def pnR (t : ByteArray) : Nat → List (List Int)
  | 0 => []
  | k + 1 => pnR t k ++ [[bI t (4 * k + 3), bI t (4 * k + 5)]]
theorem pnR_length (t : ByteArray) : ∀ k, (pnR t k).length = k
  | 0 => rfl
  | k + 1 => by show (pnR t k ++ [_]).length = k + 1; rw [List.length_append, pnR_length t k]; rfl
def pnK (t : ByteArray) : Nat := (t.size - 2) / 4
/-- ParseNetwork takes this text. -/
def PnP (t : ByteArray) : Prop := (2 ≤ t.size ∧ t.size ≤ 300) ∧ NetP (bI t 0) (pnR t (pnK t)) ∧ fmtT (bI t 0) (pnR t (pnK t)) = t

theorem fmtP_ten' {p : Nat × Nat} (h : p.1 < 10 ∧ p.2 < 10) : fmtP p = [32, UInt8.ofNat (48 + p.1), 45, UInt8.ofNat (48 + p.2)] := by
  unfold fmtP; rw [decDigits_small h.1, decDigits_small h.2]; rfl
theorem fm_get (A : List UInt8) (hA : A.length = 2) : ∀ (ps : List (Nat × Nat)), (∀ p ∈ ps, p.1 < 10 ∧ p.2 < 10) → ∀ k (h : k < ps.length), (ps.flatMap fmtP).getD (4 * k + 1) 0 = UInt8.ofNat (48 + ps[k].1) ∧ (ps.flatMap fmtP).getD (4 * k + 3) 0 = UInt8.ofNat (48 + ps[k].2) := by
  intro ps
  induction ps with
  | nil => intro _ k h; cases h
  | cons p ps ih =>
    intro h k hk
    rw [List.flatMap_cons, fmtP_ten' (h p (by simp))]
    cases k with
    | zero => exact ⟨rfl, rfl⟩
    | succ k =>
      obtain ⟨e1, e2⟩ := ih (fun q hq => h q (by simp [hq])) k (by simpa using hk)
      have a1 : 4 * (k + 1) + 1 = (4 * k + 1) + 4 := by omega
      have a2 : 4 * (k + 1) + 3 = (4 * k + 3) + 4 := by omega
      rw [a1, a2]
      exact ⟨e1, e2⟩
theorem dg_int {k : Nat} (h : k < 10) : ((UInt8.ofNat (48 + k)).toNat : Int) - 48 = (k : Int) := by rw [dg_toNat k h]; omega
theorem fmtL_ten {N : Nat} (h : N < 10) (ps : List (Nat × Nat)) : fmtL N ps = [UInt8.ofNat (48 + N), 58] ++ ps.flatMap fmtP := by
  unfold fmtL; rw [decDigits_small h]; rfl
theorem PsOk.tens {N : Nat} {ps : List (Nat × Nat)} (h : PsOk N ps) : ∀ p ∈ ps, p.1 < 10 ∧ p.2 < 10 := by
  have := h.ten ps.length
  rwa [List.take_length] at this
theorem pnR_fmt {N : Nat} {ps : List (Nat × Nat)} (h : PsOk N ps) {t : ByteArray} (ht : t.data.toList = fmtL N ps) : ∀ k, k ≤ ps.length → pnR t k = rowsOf (ps.take k) := by
  intro k
  induction k with
  | zero => intro _; rfl
  | succ k ih =>
    intro hk
    have hN := h.2.1
    have hlt : k < ps.length := by omega
    have ht2 : t.data.toList = [UInt8.ofNat (48 + N), 58] ++ ps.flatMap fmtP := by rw [ht, fmtL_ten (by omega)]
    obtain ⟨e1, e2⟩ := fm_get [UInt8.ofNat (48 + N), 58] rfl ps h.tens k hlt
    have hp := h.2.2.2 k hlt
    show pnR t k ++ [[bI t (4 * k + 3), bI t (4 * k + 5)]] = _
    rw [ih (by omega), List.take_succ_eq_append_getElem hlt]
    unfold rowsOf
    rw [List.map_append]
    congr 1
    have b1 : bI t (4 * k + 3) = (ps[k].1 : Int) := by
      unfold bI
      rw [ht2, show 4 * k + 3 = (4 * k + 1) + 2 by omega]
      show (((ps.flatMap fmtP).getD (4 * k + 1) 0).toNat : Int) - 48 = _
      rw [e1, dg_int (by omega)]
    have b2 : bI t (4 * k + 5) = (ps[k].2 : Int) := by
      unfold bI
      rw [ht2, show 4 * k + 5 = (4 * k + 3) + 2 by omega]
      show (((ps.flatMap fmtP).getD (4 * k + 3) 0).toNat : Int) - 48 = _
      rw [e2, dg_int (by omega)]
    rw [b1, b2]; rfl
/-- A network's text is read as that network. -/
theorem pn_found {n : Int} {rows : List (List Int)} {t : ByteArray} (h : NetP n rows) (ht : fmtT n rows = t) : PnP t ∧ bI t 0 = n ∧ pnR t (pnK t) = rows := by
  obtain ⟨N, rfl, hr, hp⟩ := id h.pairs
  have hN := hp.2.1
  have h60 := hp.2.2.1
  have hl : t.data.toList = fmtL N (pairsOf rows) := by rw [← ht, fmtT_yes h, fmtB_list]
  have hs : t.size = 2 + 4 * (pairsOf rows).length := by
    show t.data.toList.length = _
    rw [hl, fmtL_len N _ (by omega) hp.tens]
  have hk : pnK t = (pairsOf rows).length := by unfold pnK; rw [hs]; omega
  have hR : pnR t (pnK t) = rows := by
    rw [hk, pnR_fmt hp hl _ (Nat.le_refl _), List.take_length, ← hr]
  have h0 : bI t 0 = (N : Int) := by
    unfold bI
    rw [hl, fmtL_ten (by omega)]
    exact dg_int (by omega)
  exact ⟨⟨by omega, by rw [hR, h0]; exact h, by rw [hR, h0]; exact ht⟩, h0, hR⟩

def consD (c : UInt8) : List (List UInt8) → List (List UInt8)
  | [] => [[c]]
  | h :: t => (c :: h) :: t
/-- The pieces between the bytes d. -/
def sd (d : UInt8) : List UInt8 → List (List UInt8)
  | [] => [[]]
  | c :: r => if c = d then [] :: sd d r else consD c (sd d r)
theorem sd_ne (d : UInt8) (l : List UInt8) : sd d l ≠ [] := by
  cases l with
  | nil => simp [sd]
  | cons c r =>
    unfold sd
    split
    · simp
    · cases sd d r <;> simp [consD]
theorem sd_snoc (d c : UInt8) : ∀ (l : List UInt8) (P : List (List UInt8)) (q : List UInt8), sd d l = P ++ [q] → sd d (l ++ [c]) = if c = d then P ++ [q] ++ [[]] else P ++ [q ++ [c]] := by
  intro l
  induction l with
  | nil =>
    intro P q h
    have h1 : P = [] ∧ q = [] := by
      cases P with
      | nil => simpa [sd, eq_comm] using h
      | cons a P =>
        have := congrArg List.length h
        simp [sd] at this
    obtain ⟨rfl, rfl⟩ := h1
    by_cases hc : c = d
    · rw [if_pos hc]; simp [sd, hc]
    · rw [if_neg hc]; simp [sd, hc, consD]
  | cons b l ih =>
    intro P q h
    by_cases hb : b = d
    · have e1 : sd d (b :: l) = [] :: sd d l := by rw [sd, if_pos hb]
      have e2 : sd d (b :: l ++ [c]) = [] :: sd d (l ++ [c]) := by rw [List.cons_append, sd, if_pos hb]
      rw [e1] at h
      rw [e2]
      cases P with
      | nil =>
        simp only [List.nil_append, List.cons.injEq] at h
        exact absurd h.2 (sd_ne d l)
      | cons a P =>
        simp only [List.cons_append, List.cons.injEq] at h
        obtain ⟨rfl, h⟩ := h
        rw [ih P q h]
        split <;> simp
    · have e1 : sd d (b :: l) = consD b (sd d l) := by rw [sd, if_neg hb]
      have e2 : sd d (b :: l ++ [c]) = consD b (sd d (l ++ [c])) := by rw [List.cons_append, sd, if_neg hb]
      rw [e1] at h
      rw [e2]
      cases hl : sd d l with
      | nil => exact absurd hl (sd_ne d l)
      | cons x t =>
        rw [hl] at h
        cases P with
        | nil =>
          simp only [consD, List.nil_append, List.cons.injEq] at h
          obtain ⟨rfl, rfl⟩ := h
          rw [ih [] x (by rw [hl]; rfl)]
          split <;> simp [consD]
        | cons a P =>
          simp only [consD, List.cons_append, List.cons.injEq] at h
          obtain ⟨rfl, h⟩ := h
          rw [ih (x :: P) q (by rw [hl, h]; rfl)]
          split <;> simp [consD]
theorem sd_miss (d : UInt8) : ∀ (l : List UInt8), Lib.indexByte l d = -1 → sd d l = [l] := by
  intro l
  induction l with
  | nil => intro _; rfl
  | cons b l ih =>
    intro h
    unfold Lib.indexByte at h
    by_cases hb : b = d
    · subst hb; simp at h
    · have hb' : (b == d) = false := by simpa using hb
      rw [hb'] at h
      have h1 : Lib.indexByte l d = -1 := by
        by_cases e : Lib.indexByte l d = -1
        · exact e
        · have := Lib.indexByte_ge l d
          simp [e] at h; omega
      rw [sd, if_neg hb, ih h1]; rfl
theorem sd_hit (d : UInt8) : ∀ (l : List UInt8) (i : Nat), Lib.indexByte l d = (i : Int) → sd d l = l.take i :: sd d (l.drop (i + 1)) := by
  intro l
  induction l with
  | nil => intro i h; simp [Lib.indexByte] at h <;> omega
  | cons b l ih =>
    intro i h
    unfold Lib.indexByte at h
    by_cases hb : b = d
    · subst hb
      have : i = 0 := by simp at h; first | exact h.symm | omega
      subst this
      simp [sd]
    · have hb' : (b == d) = false := by simpa using hb
      rw [hb'] at h
      by_cases e : Lib.indexByte l d = -1
      · rw [e] at h; simp at h; try omega
      · have h2 : Lib.indexByte l d + 1 = (i : Int) := by simpa [e] using h
        have := Lib.indexByte_ge l d
        obtain ⟨j, rfl⟩ : ∃ j, i = j + 1 := ⟨i - 1, by omega⟩
        rw [sd, if_neg hb, ih j (by omega)]
        simp [consD]
theorem splitB_sd (d : UInt8) : ∀ (k : Nat) (s : ByteArray), Lib.countB s ⟨#[d]⟩ = k → (Lib.splitB ⟨#[d]⟩ 0 k s).map (·.data.toList) = sd d s.data.toList := by
  intro k
  have h1 : 1 ≤ (⟨#[d]⟩ : ByteArray).size := Nat.le_refl _
  have hix : ∀ s : ByteArray, Lib.indexB s ⟨#[d]⟩ = Lib.indexByte s.data.toList d := fun s => Lib.index_one _ _
  induction k with
  | zero =>
    intro s hs
    rcases Lib.indexB_cases s ⟨#[d]⟩ with h | ⟨i, h, _⟩
    · rw [Lib.splitB_miss _ _ _ _ h, sd_miss d _ (by rw [← hix]; exact h)]; rfl
    · have := Lib.countB_hit s ⟨#[d]⟩ i h1 h
      omega
  | succ k ih =>
    intro s hs
    rcases Lib.indexB_cases s ⟨#[d]⟩ with h | ⟨i, h, hi⟩
    · rw [Lib.splitB_miss _ _ _ _ h, sd_miss d _ (by rw [← hix]; exact h)]; rfl
    · have hc := Lib.countB_hit s ⟨#[d]⟩ i h1 h
      rw [Lib.splitB_hit _ _ _ _ i h, List.map_cons, ih _ (by omega), sd_hit d s.data.toList i (by rw [← hix]; exact h)]
      have e1 : (⟨#[d]⟩ : ByteArray).size = 1 := rfl
      rw [e1] at hi ⊢
      have e3 : (s.extract (i + 1) s.size).data.toList = s.data.toList.drop (i + 1) := by
        simp
        exact List.take_of_length_le (by simp)
      rw [e3]
      congr 1
      simp

/-- The words of a text: the pieces between the spaces. -/
def pnW (t : ByteArray) : List ByteArray := Lib.splitB ⟨#[32]⟩ 0 (Lib.countB t ⟨#[32]⟩) t
def cutA (u : ByteArray) : ByteArray := ⟨(Lib.cut u.data.toList [45]).1.toArray⟩
def cutC (u : ByteArray) : ByteArray := ⟨(Lib.cut u.data.toList [45]).2.1.toArray⟩
def trimC (u : ByteArray) : ByteArray := ⟨(Lib.trimSuffix u.data.toList [58]).toArray⟩
def wordL (p : Nat × Nat) : List UInt8 := [UInt8.ofNat (48 + p.1), 45, UInt8.ofNat (48 + p.2)]
theorem pnW_list (t : ByteArray) : (pnW t).map (·.data.toList) = sd 32 t.data.toList := splitB_sd 32 _ t rfl
theorem pnW_len (t : ByteArray) : (pnW t).length = Lib.countB t ⟨#[32]⟩ + 1 := Lib.splitB_all _ (by decide) 0 _ t rfl
theorem sd_no (d : UInt8) : ∀ (A : List UInt8), (∀ c ∈ A, c ≠ d) → sd d A = [A] := by
  intro A
  induction A with
  | nil => intro _; rfl
  | cons c A ih =>
    intro h
    rw [sd, if_neg (h c (by simp)), ih (fun x hx => h x (by simp [hx]))]; rfl
theorem sd_at (d : UInt8) : ∀ (A B : List UInt8), (∀ c ∈ A, c ≠ d) → sd d (A ++ d :: B) = A :: sd d B := by
  intro A
  induction A with
  | nil => intro B _; simp [sd]
  | cons c A ih =>
    intro B h
    rw [List.cons_append, sd, if_neg (h c (by simp)), ih B (fun x hx => h x (by simp [hx]))]; rfl
theorem dg_ne {k : Nat} (h : k < 10) (d : UInt8) (hd : d.toNat < 48 ∨ 57 < d.toNat) : UInt8.ofNat (48 + k) ≠ d := fun e => by
  have := congrArg UInt8.toNat e
  rw [dg_toNat k h] at this; omega
theorem sd_words : ∀ (ps : List (Nat × Nat)) (A : List UInt8), (∀ p ∈ ps, p.1 < 10 ∧ p.2 < 10) → (∀ c ∈ A, c ≠ 32) → sd 32 (A ++ ps.flatMap fmtP) = A :: ps.map wordL := by
  intro ps
  induction ps with
  | nil => intro A _ hA; rw [List.flatMap_nil, List.append_nil]; exact sd_no 32 A hA
  | cons p ps ih =>
    intro A h hA
    have hp := h p (by simp)
    rw [List.flatMap_cons, fmtP_ten' hp]
    show sd 32 (A ++ 32 :: (wordL p ++ ps.flatMap fmtP)) = _
    rw [sd_at 32 A _ hA, ih (wordL p) (fun q hq => h q (by simp [hq]))]
    · rfl
    · intro c hc
      unfold wordL at hc
      simp only [List.mem_cons, List.not_mem_nil, or_false] at hc
      rcases hc with rfl | rfl | rfl
      · exact dg_ne hp.1 32 (by decide)
      · decide
      · exact dg_ne hp.2 32 (by decide)
theorem PiP.small {k : Nat} (h : k < 10) {u : ByteArray} (hu : u.data.toList = [UInt8.ofNat (48 + k)]) : PiP u ∧ piN u = (k : Int) := by
  have e : u.data.toList = Lib.itoa (k : Int) := by rw [hu, Lib.itoa_nonneg, decDigits_small h]
  have hk : In64 (k : Int) := WalkArith.wf_i64 (by omega)
  exact ⟨⟨k, hk, e⟩, piN_eq hk e⟩
theorem cut_word {p : Nat × Nat} (hp : p.1 < 10 ∧ p.2 < 10) {u : ByteArray} (hu : u.data.toList = wordL p) : (PiP (cutA u) ∧ piN (cutA u) = (p.1 : Int)) ∧ PiP (cutC u) ∧ piN (cutC u) = (p.2 : Int) := by
  have hi : Lib.index (wordL p) [45] = 1 := by
    rw [Lib.index_one]
    unfold wordL Lib.indexByte
    have : (UInt8.ofNat (48 + p.1) == 45) = false := by simpa using dg_ne hp.1 45 (by decide)
    simp only [this, Lib.indexByte]
    rfl
  have e : Lib.cut u.data.toList [45] = ([UInt8.ofNat (48 + p.1)], [UInt8.ofNat (48 + p.2)], true) := by
    unfold Lib.cut
    rw [hu, hi, if_pos (by omega)]; rfl
  unfold cutA cutC
  rw [e]
  exact ⟨PiP.small hp.1 rfl, PiP.small hp.2 rfl⟩
/-- A network's text: every word of it is read. -/
theorem PnP.words {t : ByteArray} (h : PnP t) : (∀ u, (pnW t)[0]? = some u → PiP (trimC u)) ∧ ∀ k u, (pnW t)[k + 1]? = some u → PiP (cutA u) ∧ PiP (cutC u) := by
  obtain ⟨hs, hN, ht⟩ := h
  obtain ⟨N, hn, hr, hp⟩ := id hN.pairs
  have hl : t.data.toList = fmtL N (pairsOf (pnR t (pnK t))) := by
    conv => lhs; rw [← ht]
    rw [hn] at hN ⊢
    rw [fmtT_yes hN, fmtB_list]
  generalize pairsOf (pnR t (pnK t)) = ps at *
  have hN8 := hp.2.1
  have hw := pnW_list t
  rw [hl, fmtL_ten (by omega), sd_words ps _ hp.tens (by
    intro c hc
    simp only [List.mem_cons, List.not_mem_nil, or_false] at hc
    rcases hc with rfl | rfl
    · exact dg_ne (by omega) 32 (by decide)
    · decide)] at hw
  constructor
  · intro u hu
    have := congrArg (fun l : List (List UInt8) => l[0]?) hw
    simp only [List.getElem?_map, hu] at this
    simp only [Option.map_some, List.getElem?_cons_zero, Option.some.injEq] at this
    have e : Lib.trimSuffix u.data.toList [58] = [UInt8.ofNat (48 + N)] := by
      rw [this]
      unfold Lib.trimSuffix
      have : Lib.hasSuffix [UInt8.ofNat (48 + N), 58] [58] = true := by
        unfold Lib.hasSuffix
        rw [List.isSuffixOf_iff_suffix]
        exact ⟨[UInt8.ofNat (48 + N)], rfl⟩
      rw [if_pos this]; rfl
    exact (PiP.small (k := N) (by omega) (u := trimC u) (by unfold trimC; rw [e])).1
  · intro k u hu
    have := congrArg (fun l : List (List UInt8) => l[k + 1]?) hw
    simp only [List.getElem?_map, hu] at this
    simp only [Option.map_some, List.getElem?_cons_succ, List.getElem?_map] at this
    cases hq : ps[k]? with
    | none => rw [hq] at this; cases this
    | some p =>
      rw [hq] at this
      simp only [Option.map_some, Option.some.injEq] at this
      have hp2 := hp.tens p (List.mem_of_getElem? hq)
      obtain ⟨h1, h2⟩ := cut_word hp2 this
      exact ⟨h1.1, h2.1⟩
/-- The rows that the words spell. -/
noncomputable def pnQ (W : List ByteArray) : List (List Int) := W.map fun u => [piN (cutA u), piN (cutC u)]
theorem pnQ_next (W : List ByteArray) (k : Nat) (h : k < W.length) : pnQ (W.take (k + 1)) = pnQ (W.take k) ++ [[piN (cutA W[k]), piN (cutC W[k])]] := by
  unfold pnQ; rw [List.take_succ_eq_append_getElem h, List.map_append]; rfl
theorem pnQ_length (W : List ByteArray) : (pnQ W).length = W.length := by simp [pnQ]
/-- A network's text: the words spell its wires and its pairs. -/
theorem PnP.read {t : ByteArray} (h : PnP t) : (∀ u, (pnW t)[0]? = some u → piN (trimC u) = bI t 0) ∧ pnQ (pnW t).tail = pnR t (pnK t) := by
  obtain ⟨hs, hN, ht⟩ := h
  obtain ⟨N, hn, hr, hp⟩ := id hN.pairs
  have hl : t.data.toList = fmtL N (pairsOf (pnR t (pnK t))) := by
    conv => lhs; rw [← ht]
    rw [hn] at hN ⊢
    rw [fmtT_yes hN, fmtB_list]
  rw [hn, hr]
  generalize pairsOf (pnR t (pnK t)) = ps at *
  have hN8 := hp.2.1
  have hw := pnW_list t
  rw [hl, fmtL_ten (by omega), sd_words ps _ hp.tens (by
    intro c hc
    simp only [List.mem_cons, List.not_mem_nil, or_false] at hc
    rcases hc with rfl | rfl
    · exact dg_ne (by omega) 32 (by decide)
    · decide)] at hw
  constructor
  · intro u hu
    have := congrArg (fun l : List (List UInt8) => l[0]?) hw
    simp only [List.getElem?_map, hu] at this
    simp only [Option.map_some, List.getElem?_cons_zero, Option.some.injEq] at this
    have e : Lib.trimSuffix u.data.toList [58] = [UInt8.ofNat (48 + N)] := by
      rw [this]
      unfold Lib.trimSuffix
      have : Lib.hasSuffix [UInt8.ofNat (48 + N), 58] [58] = true := by
        unfold Lib.hasSuffix
        rw [List.isSuffixOf_iff_suffix]
        exact ⟨[UInt8.ofNat (48 + N)], rfl⟩
      rw [if_pos this]; rfl
    exact (PiP.small (k := N) (by omega) (u := trimC u) (by unfold trimC; rw [e])).2
  · have ht2 : (pnW t).tail.map (·.data.toList) = ps.map wordL := by
      rw [List.map_tail, hw]; rfl
    have hlen : (pnW t).tail.length = ps.length := by
      have := congrArg List.length ht2
      simpa using this
    unfold pnQ rowsOf
    apply List.ext_getElem
    · simpa using hlen
    · intro i h1 h2
      have h1' : i < (pnW t).tail.length := by simpa using h1
      have h2' : i < ps.length := by simpa using h2
      have h3 := congrArg (fun l : List (List UInt8) => l[i]?) ht2
      simp only [List.getElem?_map, List.getElem?_eq_getElem h1', List.getElem?_eq_getElem h2', Option.map_some, Option.some.injEq] at h3
      obtain ⟨h4, h5⟩ := cut_word (hp.tens _ (List.getElem_mem h2')) h3
      rw [List.getElem_map, List.getElem_map, h4.2, h5.2]
theorem sd_size (d : UInt8) : ∀ (l : List UInt8), ∀ u ∈ sd d l, u.length ≤ l.length := by
  intro l
  induction l with
  | nil => intro u hu; simp [sd] at hu; subst hu; simp
  | cons c r ih =>
    intro u hu
    unfold sd at hu
    by_cases hc : c = d
    · rw [if_pos hc] at hu
      rcases List.mem_cons.1 hu with rfl | h
      · simp
      · have := ih u h; simp; omega
    · rw [if_neg hc] at hu
      cases hs : sd d r with
      | nil => exact absurd hs (sd_ne d r)
      | cons x t =>
        rw [hs] at hu ih
        unfold consD at hu
        rcases List.mem_cons.1 hu with rfl | h
        · have := ih x (by simp); simp; omega
        · have := ih u (by simp [h]); simp; omega
theorem pnW_size (t : ByteArray) (k : Nat) (h : k < (pnW t).length) : (pnW t)[k].size ≤ t.size := by
  have hm : (pnW t)[k].data.toList ∈ sd 32 t.data.toList := by
    rw [← pnW_list]; exact List.mem_map.2 ⟨_, List.getElem_mem h, rfl⟩
  exact sd_size 32 _ _ hm
theorem cutA_size (u : ByteArray) : (cutA u).size ≤ u.size := by
  show (Lib.cut u.data.toList [45]).1.toArray.size ≤ u.data.size
  unfold Lib.cut
  split <;> (first | (simp; done) | (simp; exact Nat.min_le_right _ _) | (simp; omega))
theorem cutC_size (u : ByteArray) : (cutC u).size ≤ u.size := by
  show (Lib.cut u.data.toList [45]).2.1.toArray.size ≤ u.data.size
  unfold Lib.cut
  split <;> (first | (simp; done) | (simp; exact Nat.min_le_right _ _) | (simp; omega))
theorem trimC_size (u : ByteArray) : (trimC u).size ≤ u.size := by
  show (Lib.trimSuffix u.data.toList [58]).toArray.size ≤ u.data.size
  unfold Lib.trimSuffix
  split <;> (first | (simp; done) | (simp; exact Nat.min_le_right _ _) | (simp; omega))
theorem countB_le (t : ByteArray) : (pnW t).length ≤ t.size + 1 := by
  have key : ∀ (l : List UInt8), (sd 32 l).length ≤ l.length + 1 := by
    intro l
    induction l with
    | nil => simp [sd]
    | cons c r ih =>
      unfold sd
      split
      · simp; omega
      · cases hs : sd 32 r with
        | nil => exact absurd hs (sd_ne 32 r)
        | cons x t => rw [hs] at ih; simp [consD] at *; omega
  have := key t.data.toList
  rw [← pnW_list, List.length_map] at this
  exact this
end Go.Proofs.YtpgccaibcpiakaaDoor
