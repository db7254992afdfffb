/- The plain laws of FnResults: sets of results shrink, hold all sorted masks, are renamed without loss, and tell what is known. No program is named. -/
import Derived.Test.YtldhbbbkfnfhoaaTopP
import Derived.Test.YtldhbbbkfnfhoaaKnown
import Derived.Test.YtldhbbbkfnfhoaaFitP
import Derived.Test.YtldhbbbkfnfhoaaFits2
import Derived.Test.YtldhbbbkfnfhoaaMk
namespace Go.Proofs.Ytldhbbbkfnfhoaa
open Go.RowKit
set_option linter.unusedVariables false

/-- The results behind the first k comparators. -/
def setK (N : Nat) (ps : List (Nat × Nat)) (k : Nat) : List Int := imgL (2 ^ N) (mapF (bitsN (ps.take k)) (upto (2 ^ N)))
theorem PsOk.take {N : Nat} {ps : List (Nat × Nat)} (h : PsOk N ps) (k : Nat) : PsOk N (ps.take k) := by
  refine ⟨h.1, h.2.1, by rw [List.length_take]; have := h.2.2.1; omega, fun i hi => ?_⟩
  rw [List.getElem_take]
  exact h.2.2.2 i _
def StdL (ps : List (Nat × Nat)) : Prop := ∀ p ∈ ps, p.1 < p.2
theorem StdL.not {ps : List (Nat × Nat)} (h : StdL ps) : ¬ SomeP GtP ps := fun ⟨k, hk, hg⟩ => by
  have := h _ (List.getElem_mem hk)
  unfold GtP at hg
  omega
theorem StdL.take {ps : List (Nat × Nat)} (h : StdL ps) (k : Nat) : StdL (ps.take k) := fun p hp => h p (List.mem_of_mem_take hp)
theorem mem_upto {M : Nat} {x : Int} : x ∈ upto M ↔ ∃ i : Nat, i < M ∧ (i : Int) = x := by
  unfold upto; rw [List.mem_map]; simp
theorem img_bd {N : Nat} {ps : List (Nat × Nat)} (hp : PsOk N ps) : ∀ y ∈ mapF (bitsN ps) (upto (2 ^ N)), 0 ≤ y ∧ y < ((2 ^ N : Nat) : Int) := mapF_bd fun x hx => by
  obtain ⟨i, hi, rfl⟩ := mem_upto.1 hx
  rw [Int.toNat_natCast]; exact bitsN_pow hp i hi
theorem mem_img {N : Nat} {ps : List (Nat × Nat)} (y : Int) : y ∈ mapF (bitsN ps) (upto (2 ^ N)) ↔ ∃ m, m < 2 ^ N ∧ ((bitsN ps m : Nat) : Int) = y := by
  unfold mapF
  rw [List.mem_map]
  constructor
  · rintro ⟨x, hx, rfl⟩
    obtain ⟨i, hi, rfl⟩ := mem_upto.1 hx
    exact ⟨i, hi, by rw [Int.toNat_natCast]⟩
  · rintro ⟨m, hm, rfl⟩
    exact ⟨(m : Int), mem_upto.2 ⟨m, hm, rfl⟩, by rw [Int.toNat_natCast]⟩
theorem mem_setK {N : Nat} {ps : List (Nat × Nat)} (hp : PsOk N ps) (k : Nat) (y : Int) : y ∈ setK N ps k ↔ ∃ m, m < 2 ^ N ∧ ((bitsN (ps.take k) m : Nat) : Int) = y := by
  unfold setK; rw [mem_imgL (img_bd (hp.take k)), mem_img]
theorem upto_sorted (M : Nat) : (upto M).Pairwise (· < ·) := by
  unfold upto
  rw [List.pairwise_map]
  exact List.Pairwise.imp (fun h => by omega) List.pairwise_lt_range
theorem setK_zero {N : Nat} {ps : List (Nat × Nat)} (hp : PsOk N ps) : setK N ps 0 = upto (2 ^ N) := by
  refine sorted_ext (imgL_sorted _ _) (upto_sorted _) fun x => ?_
  rw [mem_setK hp, mem_upto]
  exact Iff.rfl
theorem masks_img {N : Nat} {ys : List Int} (h1 : 1 ≤ N) (h8 : N ≤ 8) : MasksP N (imgL (2 ^ N) ys) := by
  refine ⟨⟨by omega, by omega⟩, fun i hi => ?_⟩
  have hb := imgL_bd (2 ^ N) ys _ (List.getElem_mem hi)
  have hc : ((2 ^ N : Nat) : Int) = (2 : Int) ^ N := by simp
  refine ⟨⟨hb.1, ?_⟩, fun h0 => ?_⟩
  · rw [Int.toNat_natCast, ← hc]; omega
  · have hs := List.pairwise_iff_getElem.1 (imgL_sorted (2 ^ N) ys) (i - 1) i (by omega) hi (by omega)
    rw [getD_get (show i - 1 < (imgL (2 ^ N) ys).length by omega)]
    exact hs
theorem setK_masks {N : Nat} {ps : List (Nat × Nat)} (hp : PsOk N ps) (k : Nat) : MasksP N (setK N ps k) := masks_img hp.1 hp.2.1
theorem setK_next {N : Nat} {ps : List (Nat × Nat)} (hp : PsOk N ps) (k : Nat) (hk : k < ps.length) : afN N (setK N ps k) (ps[k].1 : Nat) (ps[k].2 : Nat) = setK N ps (k + 1) := by
  obtain ⟨a1, a2, a3⟩ := hp.2.2.2 k hk
  unfold afN
  rw [onlyI_yes ⟨setK_masks hp k, by omega, by omega, by omega, by omega, by omega⟩]
  rw [Int.toNat_natCast, Int.toNat_natCast, Int.toNat_natCast]
  show imgL _ _ = imgL _ _
  apply imgL_congr
  intro x
  rw [mem_img]
  unfold mapF
  rw [List.mem_map]
  constructor
  · rintro ⟨y, hy, rfl⟩
    obtain ⟨m, hm, rfl⟩ := (mem_setK hp k y).1 hy
    exact ⟨m, hm, by rw [Int.toNat_natCast, bitsN_snoc ps m k hk]⟩
  · rintro ⟨m, hm, rfl⟩
    exact ⟨_, (mem_setK hp k _).2 ⟨m, hm, rfl⟩, by rw [Int.toNat_natCast, bitsN_snoc ps m k hk]⟩
theorem nodup_lt {l : List Int} (h : l.Pairwise (· < ·)) : l.Nodup := List.Pairwise.imp (fun h => by omega) h
theorem sub_len {l1 l2 : List Int} (h : l1.Nodup) (hs : ∀ x ∈ l1, x ∈ l2) : l1.length ≤ l2.length := inj_len id l1 l2 h (fun _ _ _ _ e => e) hs
theorem setK_nodup (N : Nat) (ps : List (Nat × Nat)) (k : Nat) : (setK N ps k).Nodup := nodup_lt (imgL_sorted _ _)
theorem setK_len {N : Nat} {ps : List (Nat × Nat)} (hp : PsOk N ps) (k : Nat) (hk : k < ps.length) : (setK N ps (k + 1)).length ≤ (setK N ps k).length := by
  have h := sub_len (l1 := setK N ps (k + 1)) (l2 := mapF (fun m => stepN m ps[k].1 ps[k].2) (setK N ps k)) (setK_nodup _ _ _) fun x hx => by
    obtain ⟨m, hm, rfl⟩ := (mem_setK hp _ _).1 hx
    unfold mapF
    exact List.mem_map.2 ⟨_, (mem_setK hp k _).2 ⟨m, hm, rfl⟩, by rw [Int.toNat_natCast, bitsN_snoc ps m k hk]⟩
  rwa [mapF_length] at h
theorem setK_up {N : Nat} {ps : List (Nat × Nat)} (hp : PsOk N ps) (hs : StdL ps) (k : Nat) {m : Nat} (hm : m < 2 ^ N) (hu : upB N m = true) : (m : Int) ∈ setK N ps k :=
  (mem_setK hp k _).2 ⟨m, hm, by rw [std_fix (hp.take k) (hs.take k).not hu]⟩
theorem setK_ge {N : Nat} {ps : List (Nat × Nat)} (hN : N ≤ 6) (hp : PsOk N ps) (hs : StdL ps) (k : Nat) : N + 1 ≤ (setK N ps k).length := by
  have h := filter_len (l := List.range (2 ^ N)) (p := fun m => upB N m) (q := resB N (ps.take k)) fun m hm hu => up_res (hp.take k) (hs.take k).not m (by simpa using hm) hu
  rw [(cnt_all ⟨N, by omega⟩ hp.1).2.2] at h
  unfold setK imgL
  rw [List.length_map]
  exact h
theorem setK_zero_mem {N : Nat} {ps : List (Nat × Nat)} (hp : PsOk N ps) (hs : StdL ps) (k : Nat) : (0 : Int) ∈ setK N ps k := setK_up hp hs k (m := 0) (Nat.two_pow_pos N) (zero_up N)
theorem setK_head {N : Nat} {ps : List (Nat × Nat)} (hp : PsOk N ps) (hs : StdL ps) (k : Nat) (h : 0 < (setK N ps k).length) : (setK N ps k)[0] = 0 := by
  obtain ⟨i, hi, e⟩ := List.getElem_of_mem (setK_zero_mem hp hs k)
  rcases Nat.eq_zero_or_pos i with h0 | h0
  · subst h0; exact e
  · have h1 := List.pairwise_iff_getElem.1 (imgL_sorted (2 ^ N) (mapF (bitsN (ps.take k)) (upto (2 ^ N)))) 0 i h hi h0
    have h2 : 0 ≤ (imgL (2 ^ N) (mapF (bitsN (ps.take k)) (upto (2 ^ N))))[0] := (imgL_bd (2 ^ N) (mapF (bitsN (ps.take k)) (upto (2 ^ N))) _ (List.getElem_mem h)).1
    have e' : (imgL (2 ^ N) (mapF (bitsN (ps.take k)) (upto (2 ^ N))))[i] = 0 := e
    rw [e'] at h1
    show (imgL (2 ^ N) (mapF (bitsN (ps.take k)) (upto (2 ^ N))))[0] = 0
    omega
theorem setK_end {N : Nat} {ps : List (Nat × Nat)} (hp : PsOk N ps) : resN N (rowsOf ps) = setK N ps ps.length := by
  unfold resN setK
  rw [onlyI_yes hp.netP, Int.toNat_natCast, pairsOf_rowsOf, List.take_length]
/-- A filter that lets one number through. -/
theorem filter_one {l : List Int} {a : Int} {p : Int → Bool} (hn : l.Nodup) (ha : a ∈ l) (hp : ∀ x ∈ l, p x = true ↔ x = a) : (l.filter p).length = 1 := by
  have h1 : (l.filter p).length ≤ [a].length := sub_len (hn.filter p) fun x hx => by
    obtain ⟨h1, h2⟩ := List.mem_filter.1 hx
    rw [(hp x h1).1 h2]; simp
  have h2 : 0 < (l.filter p).length := List.length_pos_of_mem (List.mem_filter.2 ⟨ha, (hp a ha).2 rfl⟩)
  simp at h1; omega
theorem sum_bump : ∀ (l : List Int) (i : Nat), i < l.length → (l.set i (l.getD i 0 + 1)).sum = l.sum + 1
  | [], i, h => by simp at h
  | x :: t, 0, _ => by simp; omega
  | x :: t, i + 1, h => by
    have := sum_bump t i (by simpa using h)
    simp only [List.set_cons_succ, List.sum_cons, List.getD_cons_succ]
    omega
theorem sum_zeros (n : Nat) : (List.replicate n (0 : Int)).sum = 0 := by
  induction n with
  | zero => rfl
  | succ n ih => rw [List.replicate_succ, List.sum_cons, ih]; rfl
theorem clus_sum {N : Nat} {xs : List Int} (h : ∀ x ∈ xs, onesN x.toNat ≤ N) (k : Nat) (hk : k ≤ xs.length) : (clusTo N xs k).sum = (k : Int) := by
  induction k with
  | zero => unfold clusTo; exact sum_zeros _
  | succ k ih =>
    rw [clusTo_succ N xs k (by omega)]
    unfold clusStep
    rw [sum_bump _ _ (by rw [clusTo_length]; have := h _ (List.getElem_mem (show k < xs.length by omega)); omega), ih (by omega)]
    omega
theorem sorted_all : ∀ n : Fin 7, ∀ k : Fin 7, 1 ≤ n.val → k.val ≤ n.val → 0 ≤ sortedN n.val k.val ∧ (sortedN n.val k.val).toNat < 2 ^ n.val ∧ upB n.val (sortedN n.val k.val).toNat = true := by decide +kernel

/-- The results r of a standard network: what FnResults asks of them. -/
structure ResF (N : Nat) (r : List Int) : Prop where
  masks : MasksP N r
  len : r.length ≤ 64
  clen : (clusN N r).length = N + 1
  csum : (clusN N r).sum = (r.length : Int)
  cbd : ∀ x ∈ clusN N r, 0 ≤ x ∧ x ≤ 1000
  c0 : (clusN N r).getD 0 0 = 1
  cN : (clusN N r).getD N 0 = 1
  has : ∀ k, k ≤ N → sortedN N k ∈ r
theorem ones_bd {N : Nat} {xs : List Int} (hN : N ≤ 8) (h : MasksP N xs) : ∀ x ∈ xs, onesN x.toNat ≤ N := fun x hx => by
  obtain ⟨i, hi, rfl⟩ := List.getElem_of_mem hx
  obtain ⟨m, e, _, h3⟩ := mask_fact hN h i hi
  rw [e]; exact h3
theorem res_facts {N : Nat} {ps : List (Nat × Nat)} (h6 : N ≤ 6) (hp : PsOk N ps) (hs : StdL ps) (k : Nat) : ResF N (setK N ps k) := by
  have hM := setK_masks hp k
  have h64 := pow64 h6
  have hin : ∀ x ∈ setK N ps k, 0 ≤ x ∧ x.toNat < 2 ^ N := fun x hx => by
    have := imgL_bd (2 ^ N) _ x hx; omega
  have hO := ones_bd (by omega) hM
  have hl : (setK N ps k).length ≤ 64 := Nat.le_trans (imgL_le _ _) h64
  have hC : clusN N (setK N ps k) = clusTo N (setK N ps k) (setK N ps k).length := by
    unfold clusN; rw [tf_yes hM, Int.toNat_natCast]; rfl
  have hf := full_up_all ⟨N, by omega⟩
  have h0 : 0 < 2 ^ N := Nat.two_pow_pos N
  refine ⟨hM, hl, by rw [hC, clusTo_length], by rw [hC, clus_sum hO _ (Nat.le_refl _)], ?_, ?_, ?_, ?_⟩
  · intro x hx
    rw [hC] at hx
    have := clusTo_in N (setK N ps k) (setK N ps k).length x hx
    omega
  · rw [hC, clus_at (by omega) hM 0 (by omega)]
    rw [filter_one (setK_nodup N ps k) (setK_zero_mem hp hs k) fun x hx => ?_]
    · rfl
    · rw [decide_eq_true_iff]
      have := hin x hx
      constructor
      · intro e
        have := (upto_fix_all ⟨N, by omega⟩ ⟨x.toNat, by omega⟩ this.2).1 e
        show x = 0
        simp only at this; omega
      · intro e; subst e; rfl
  · rw [hC, clus_at (by omega) hM N (Nat.le_refl _)]
    rw [filter_one (a := ((2 ^ N - 1 : Nat) : Int)) (setK_nodup N ps k) (setK_up hp hs k (by omega) hf.1) fun x hx => ?_]
    · rfl
    · rw [decide_eq_true_iff]
      have := hin x hx
      constructor
      · intro e
        have := (upto_fix_all ⟨N, by omega⟩ ⟨x.toNat, by omega⟩ this.2).2 e
        simp only at this; omega
      · intro e; subst e; rw [Int.toNat_natCast]; exact hf.2
  · intro j hj
    obtain ⟨s1, s2, s3⟩ := sorted_all ⟨N, by omega⟩ ⟨j, by omega⟩ hp.1 hj
    have := setK_up hp hs k s2 s3
    simp only at this s1
    rwa [Int.toNat_of_nonneg s1] at this
end Go.Proofs.Ytldhbbbkfnfhoaa
