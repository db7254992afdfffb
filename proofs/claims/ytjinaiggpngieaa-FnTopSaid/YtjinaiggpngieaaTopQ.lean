/- The plain law of FnTop: what the functions' values say of each other, for at most six wires. No program is named. -/
import Derived.Test.YtjinaiggpngieaaTopP
import Derived.Test.YtjinaiggpngieaaSrtP
import Derived.Test.YtjinaiggpngieaaApplyBits
import Derived.Test.YtjinaiggpngieaaNums
namespace Go.Proofs.Ytjinaiggpngieaa
open Go.RowKit
set_option linter.unusedVariables false

theorem fail_srt_all : ∀ n : Fin 7, ∀ m : Fin 64, m.val < 2 ^ n.val → srtL (failTo n.val m.val n.val) = upto n.val := by decide +kernel
theorem pow_cast (N : Nat) : (2 : Int) ^ N = ((2 ^ N : Nat) : Int) := by simp
theorem isSm_sorted {N m : Nat} (h : IsSm N m) : (m : Int) = sortedN N (onesN m) := by
  unfold IsSm at h
  simp only [Int.toNat_natCast] at h
  exact h.2.2
theorem zero64 : In64 0 := WalkArith.wf_i64 (by omega)
theorem cum_nonneg {N : Nat} (h1 : 1 ≤ N) (h6 : N ≤ 6) : 0 ≤ cumN N := by
  have h4 : N + 1 ≤ 2 ^ N := by
    have : ∀ k : Fin 7, k.val + 1 ≤ 2 ^ k.val := by decide
    exact this ⟨N, by omega⟩
  have hpw := pow_cast N
  unfold cumN
  rw [if_pos ⟨by omega, by omega⟩, Int.toNat_natCast, hpw]
  omega
theorem top_nums {N M m c : Nat} (h1 : 1 ≤ N) (h6 : N ≤ 6) (hM : 2 ^ N = M) (f2 : m < 2 ^ N) (f4 : 0 < c) (f5 : c ≤ 2 ^ N - 2) : In64 (m : Int) ∧ ((m : Int) == -1) = false ∧ ((c : Int) == 0) = false ∧ decide ((c : Int) < 0) = false ∧ decide ((c : Int) > (M : Int) - 2) = false := by
  have h64 := pow64 h6
  rw [hM] at f2 f5 h64
  have hM2 : 2 ≤ M := by
    have : ∀ k : Fin 7, 1 ≤ k.val → 2 ≤ 2 ^ k.val := by decide
    rw [← hM]; exact this ⟨N, by omega⟩ h1
  exact ⟨WalkArith.wf_i64 (by omega), by rw [beq_eq_false_iff_ne]; omega, by rw [beq_eq_false_iff_ne]; omega, decide_eq_false (by omega), decide_eq_false (by omega)⟩
theorem not_gt {a b : Int} (h : a ≤ b) : decide (a > b) = false := decide_eq_false (by omega)
theorem not_lt {a b : Int} (h : a ≤ b) : decide (b < a) = false := decide_eq_false (by omega)
theorem gt_lt {a b : Int} (h : decide (a > b) = false) : decide (b < a) = false := h
theorem len_ne {a b : Nat} (h : a ≠ b + 1) : ((a : Int) == (b : Int) + 1) = false := by rw [beq_eq_false_iff_ne]; omega
theorem len_eq (b : Nat) : (((b + 1 : Nat) : Int) == (b : Int) + 1) = true ∧ (((b + 1 : Nat) : Int) != (b : Int) + 1) = false := by simp
theorem top_zero {N M : Nat} (h1 : 1 ≤ N) (h6 : N ≤ 6) (hM : 2 ^ N = M) : decide ((0 : Int) > (M : Int) - 2) = false ∧ 2 ≤ (M : Int) ∧ IntKind.i64.wrap ((M : Int) - 2) = (M : Int) - 2 := by
  have hM2 : 2 ≤ M := by
    have : ∀ k : Fin 7, 1 ≤ k.val → 2 ≤ 2 ^ k.val := by decide
    rw [← hM]; exact this ⟨N, by omega⟩ h1
  have h64 := pow64 h6
  exact ⟨decide_eq_false (by omega), by omega, IntWalk.i64_in _ ⟨by omega, by omega⟩⟩
structure TopF (N : Nat) (ps : List (Nat × Nat)) (l : List Int) : Prop where
  net : NetP N (rowsOf ps)
  app : ApP N (rowsOf ps) l
  len : (anN N (rowsOf ps) l).length = N
  srt : srtL (anN N (rowsOf ps) l) = srtL l
  thr : ∀ t, thrN (anN N (rowsOf ps) l) t = abN N (rowsOf ps) (thrN l t)
  thr64 : ∀ t, In64 (thrN l t)
theorem thrN_yes {xs : List Int} {N : Nat} (hl : xs.length = N) (h1 : 1 ≤ N) (h8 : N ≤ 8) (t : Int) : thrN xs t = (thrTo xs t N : Int) := by
  unfold thrN; rw [hl, if_pos ⟨h1, h8⟩]
theorem anN_apL {N : Nat} {ps : List (Nat × Nat)} {l : List Int} (hp : PsOk N ps) (hl : l.length = N) : anN N (rowsOf ps) l = apL ps l := by
  rw [anN_yes ⟨hp.netP, by omega⟩, pairsOf_rowsOf]
theorem top_facts {N : Nat} {ps : List (Nat × Nat)} {l : List Int} (h6 : N ≤ 6) (hp : PsOk N ps) (hl : l.length = N) : TopF N ps l := by
  have h1 := hp.1
  have e := anN_apL hp hl
  have hlen : (apL ps l).length = N := by rw [apL_length, hl]
  refine ⟨hp.netP, ⟨hp.netP, by omega⟩, by rw [e]; exact hlen, by rw [e]; exact srt_same (apL_perm hp hl), fun t => ?_, fun t => ?_⟩
  · have hlt := thrTo_lt l t N
    rw [e, thrN_yes hlen h1 (by omega), thrN_yes hl h1 (by omega), thr_net t h6 hp hl]
    have hc := pow_cast N
    have hb : NetP N (rowsOf ps) ∧ InP 0 ((thrTo l t N : Nat) : Int) (2 ^ (N : Int).toNat - 1) := ⟨hp.netP, by unfold InP; rw [Int.toNat_natCast]; omega⟩
    rw [abN_yes hb, pairsOf_rowsOf, Int.toNat_natCast]
  · have hlt := thrTo_lt l t N
    have h64 := pow64 h6
    rw [thrN_yes hl h1 (by omega)]
    exact WalkArith.wf_i64 (by omega)
theorem sort_iff {N : Nat} {ps : List (Nat × Nat)} (hp : PsOk N ps) : SortP N (rowsOf ps) ↔ badI N ps (2 ^ N) = [] := by
  unfold SortP
  rw [pairsOf_rowsOf, Int.toNat_natCast]
  exact ⟨fun h => h.2, fun h => ⟨hp.netP, h⟩⟩
theorem top_sort {N : Nat} {ps : List (Nat × Nat)} {l : List Int} (h6 : N ≤ 6) (hp : PsOk N ps) (hl : l.length = N) (hs : SortP N (rowsOf ps)) :
    fuN N (rowsOf ps) = -1 ∧ cuN N (rowsOf ps) = 0 ∧ (resN N (rowsOf ps)).length = N + 1 ∧ ¬ FlP N (rowsOf ps) ∧ RisesP (anN N (rowsOf ps) l) ∧ (∀ q : List Int, q.length = N → SoP N (rowsOf ps) q) ∧ abN N (rowsOf ps) 0 = 0 := by
  have h1 := hp.1
  have hb := (sort_iff hp).1 hs
  have hf := (sort_first N (rowsOf ps) hp.netP).1 hs
  refine ⟨hf, (sort_count N (rowsOf ps)).1 hs, ?_, fun h => h hf, by rw [anN_apL hp hl]; exact sort_rises h6 hp hb hl, fun q hq => ⟨⟨hp.netP, by omega⟩, by rw [anN_apL hp hq]; exact sort_rises h6 hp hb hq⟩, ?_⟩
  · rw [res_length hp.netP, pairsOf_rowsOf]; exact res_sort h6 hp hb
  · have hc := pow_pos N
    rw [abN_yes ⟨hp.netP, by unfold InP; rw [Int.toNat_natCast]; omega⟩, pairsOf_rowsOf]
    show ((bitsN ps 0 : Nat) : Int) = 0
    rw [bits_zero h6 hp]; rfl
theorem top_fail {N : Nat} {ps : List (Nat × Nat)} (h6 : N ≤ 6) (hp : PsOk N ps) (hs : ¬ SortP N (rowsOf ps)) :
    ∃ m c : Nat, fuN N (rowsOf ps) = (m : Int) ∧ m < 2 ^ N ∧ cuN N (rowsOf ps) = (c : Int) ∧ 0 < c ∧ c ≤ 2 ^ N - 2 ∧ FlP N (rowsOf ps) ∧ flN N (rowsOf ps) = failTo N m N ∧ srtL (failTo N m N) = upto N ∧ ¬ SoP N (rowsOf ps) (failTo N m N) ∧ ¬ IsSm N (abN N (rowsOf ps) m) ∧ In64 (abN N (rowsOf ps) m) ∧
      (StdP N (rowsOf ps) → (resN N (rowsOf ps)).length ≠ N + 1 ∧ (c : Int) ≤ cumN N) := by
  have h1 := hp.1
  have h64 := pow64 h6
  have hb : badI N ps (2 ^ N) ≠ [] := fun h => hs ((sort_iff hp).2 h)
  cases hbl : badI N ps (2 ^ N) with
  | nil => exact absurd hbl hb
  | cons x r =>
    obtain ⟨m, hm, hbm, hx⟩ := mem_badI.1 (show x ∈ badI N ps (2 ^ N) by rw [hbl]; simp)
    subst hx
    have hf : fuN N (rowsOf ps) = (m : Int) := by rw [fuN_yes hp.netP, pairsOf_rowsOf, hbl]; rfl
    have hc : cuN N (rowsOf ps) = ((badI N ps (2 ^ N)).length : Int) := by rw [cuN_yes hp.netP, pairsOf_rowsOf]
    have hFl : FlP N (rowsOf ps) := fun h => by rw [hf] at h; omega
    have hfl : flN N (rowsOf ps) = failTo N m N := by
      unfold flN; rw [tf_yes hFl, hf, Int.toNat_natCast, Int.toNat_natCast]; rfl
    have hpw := pow_cast N
    have hab : abN N (rowsOf ps) m = (bitsN ps m : Int) := by
      rw [abN_yes ⟨hp.netP, by unfold InP; rw [Int.toNat_natCast]; omega⟩, pairsOf_rowsOf, Int.toNat_natCast]
    have hlt := bitsN_pow hp m hm
    have hpos : 0 < (badI N ps (2 ^ N)).length := by rw [hbl]; simp
    refine ⟨m, _, hf, hm, hc, hpos, cnt_le h6 hp, hFl, hfl, fail_srt_all ⟨N, by omega⟩ ⟨m, by omega⟩ hm, ?_, ?_, by rw [hab]; exact WalkArith.wf_i64 (by omega), ?_⟩
    · rintro ⟨_, h2⟩
      rw [anN_apL hp (failTo_length N m N)] at h2
      exact bad_fails h6 hp hm hbm h2
    · intro h
      rw [hab] at h
      have h3 := (up_iff h6 hlt).2 (isSm_sorted h)
      rw [← bad_iff h6 hp hm, hbm] at h3
      cases h3
    · intro hst
      have hst2 : ¬ SomeP GtP ps := by have := hst.2; rwa [pairsOf_rowsOf] at this
      refine ⟨fun h => ?_, ?_⟩
      · rw [res_length hp.netP, pairsOf_rowsOf] at h
        exact hb (std_sort h6 hp hst2 h)
      · have h3 := std_cnt h6 hp hst2
        have h4 : N + 1 ≤ 2 ^ N := by
          have : ∀ k : Fin 7, k.val + 1 ≤ 2 ^ k.val := by decide
          exact this ⟨N, by omega⟩
        unfold cumN
        rw [if_pos ⟨by omega, by omega⟩, Int.toNat_natCast, hpw]
        omega
end Go.Proofs.Ytjinaiggpngieaa
