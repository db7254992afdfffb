/- Plain Lean: what a set that fits into another one has in common with it. -/
import Derived.Test.YtldhbbbkfnfhoaaNext
import Derived.Test.YtldhbbbkfnfhoaaRenM
import Derived.Test.YtldhbbbkfnfhoaaWithin
import Derived.Test.YtldhbbbkfnfhoaaClusters
namespace Go.Proofs.Ytldhbbbkfnfhoaa
open Go.RowKit
set_option linter.unusedVariables false

/-- A renamed mask with its old names, the first k wires of it. -/
def unTo (p : List Int) (r : Nat) : Nat → Nat
  | 0 => 0
  | k + 1 => unTo p r k + r / 2 ^ (p.getD k 0).toNat % 2 * 2 ^ k
def okFit (N : Nat) : Bool := (ords N N).all fun p => (List.range (2 ^ N)).all fun m => decide (unTo p (renM p m) N = m) && decide (onesN (renM p m) = onesN m)
theorem okFit_all : ∀ N : Fin 6, okFit N.val = true := by decide +kernel
theorem fit_ok {N : Nat} {p : List Int} (hN : N ≤ 5) (hp : p ∈ ords N N) (m : Nat) (hm : m < 2 ^ N) : unTo p (renM p m) N = m ∧ onesN (renM p m) = onesN m := by
  have h := okFit_all ⟨N, by omega⟩
  unfold okFit at h
  simp only [Bool.and_eq_true, decide_eq_true_eq, List.all_eq_true] at h
  exact h p hp m (List.mem_range.2 hm)
/-- One to one into a list: no longer than it. -/
theorem inj_len (f : Int → Int) : ∀ (l1 l2 : List Int), l1.Nodup → (∀ x ∈ l1, ∀ y ∈ l1, f x = f y → x = y) → (∀ x ∈ l1, f x ∈ l2) → l1.length ≤ l2.length
  | [], _, _, _, _ => Nat.zero_le _
  | x :: t, l2, hn, hf, h => by
    rw [List.nodup_cons] at hn
    have hx := h x (List.mem_cons_self ..)
    have := inj_len f t (l2.erase (f x)) hn.2 (fun a ha b hb => hf a (List.mem_cons_of_mem _ ha) b (List.mem_cons_of_mem _ hb)) (fun y hy => by
      refine (List.mem_erase_of_ne ?_).2 (h y (List.mem_cons_of_mem _ hy))
      intro e
      have := hf y (List.mem_cons_of_mem _ hy) x (List.mem_cons_self ..) e
      subst this
      exact hn.1 hy)
    rw [List.length_erase_of_mem hx] at this
    have := List.length_pos_of_mem hx
    simp only [List.length_cons]
    omega
theorem clus_count (n : Nat) (c : Nat) (hc : c ≤ n) : ∀ (l : List Int) (acc : List Int), acc.length = n + 1 → (∀ x ∈ l, onesN x.toNat ≤ n) → (l.foldl clusStep acc).getD c 0 = acc.getD c 0 + ((l.filter fun x => decide (onesN x.toNat = c)).length : Int)
  | [], acc, _, _ => by simp
  | x :: t, acc, ha, h => by
    have hx := h x (List.mem_cons_self ..)
    have := clus_count n c hc t (clusStep acc x) (by simp [clusStep, ha]) (fun y hy => h y (List.mem_cons_of_mem _ hy))
    rw [List.foldl_cons, this]
    unfold clusStep
    by_cases e : onesN x.toNat = c
    · have h1 : (acc.set (onesN x.toNat) (acc.getD (onesN x.toNat) 0 + 1)).getD c 0 = acc.getD c 0 + 1 := by
        rw [← e]; simp [List.getD_eq_getElem?_getD, show onesN x.toNat < acc.length by omega]
      rw [h1, List.filter_cons_of_pos (by simpa using e)]
      simp only [List.length_cons]; omega
    · have h1 : (acc.set (onesN x.toNat) (acc.getD (onesN x.toNat) 0 + 1)).getD c 0 = acc.getD c 0 := by
        simp [List.getD_eq_getElem?_getD, List.getElem?_set_ne e]
      rw [h1, List.filter_cons_of_neg (by simpa using e)]
theorem clus_at {N : Nat} {xs : List Int} (hN : N ≤ 8) (h : MasksP N xs) (c : Nat) (hc : c ≤ N) : (clusTo N xs xs.length).getD c 0 = ((xs.filter fun x => decide (onesN x.toNat = c)).length : Int) := by
  unfold clusTo
  rw [List.take_length, clus_count N c hc _ _ (by simp) (fun x hx => by
    obtain ⟨i, hi, rfl⟩ := List.getElem_of_mem hx
    obtain ⟨m, e, _, h1⟩ := mask_fact hN h i hi
    rw [e, Int.toNat_natCast]; exact h1)]
  have : (List.replicate (N + 1) (0 : Int)).getD c 0 = 0 := by simp [List.getD_eq_getElem?_getD, show c < N + 1 by omega]
  rw [this]; omega
/-- Some order takes the first set into the second one. -/
def FitP (N : Nat) (a b : List Int) : Prop := ∃ p ∈ ords N N, Within (imgL (2 ^ N) (mapF (renM p) a)) b
theorem fit_in {N : Nat} {a b p : List Int} (hN : N ≤ 5) (hp : p ∈ ords N N) (hP : PermP N p) (h : Within (imgL (2 ^ N) (mapF (renM p) a)) b) : ∀ x ∈ a, ((renM p x.toNat : Nat) : Int) ∈ b := by
  intro x hx
  have h1 : ((renM p x.toNat : Nat) : Int) ∈ mapF (renM p) a := List.mem_map.2 ⟨x, hx, rfl⟩
  have h2 := (mem_imgL (M := 2 ^ N) (mapF_bd (fun x _ => renM_lt (by omega) hP x.toNat)) _).2 h1
  obtain ⟨i, hi, e⟩ := List.getElem_of_mem h2
  rw [← e]; exact h i hi
theorem ords_perm {N : Nat} {p : List Int} (hN : N ≤ 5) (hp : p ∈ ords N N) : PermP N p := (ords_ok hN (Nat.le_refl _)).2 p hp
theorem masks_nodup {N : Nat} {xs : List Int} (h : MasksP N xs) : xs.Nodup := by
  have H : ∀ d i (h : i + d + 1 < xs.length), xs[i] < xs[i + d + 1] := by
    intro d
    induction d with
    | zero =>
      intro i hi
      have h1 := (h.2 (i + 1) hi).2 (by omega)
      rw [Nat.add_sub_cancel, getD_get (by omega)] at h1
      exact h1
    | succ d ih =>
      intro i hi
      have h0 := ih i (by omega)
      have h1 := (h.2 (i + (d + 1) + 1) hi).2 (by omega)
      rw [Nat.add_sub_cancel, getD_get (by omega)] at h1
      exact Int.lt_trans h0 h1
  refine List.Pairwise.imp (R := (· < ·)) (fun h => Int.ne_of_lt h) (List.pairwise_iff_getElem.2 fun i j hi hj hij => ?_)
  obtain ⟨d, rfl⟩ : ∃ d, j = i + d + 1 := ⟨j - i - 1, by omega⟩
  exact H d i hj
theorem fit_len {N : Nat} {a b : List Int} (hN : N ≤ 5) (ha : MasksP N a) (hb : MasksP N b) (h : FitP N a b) : a.length ≤ b.length ∧ ∀ c, c ≤ N → (clusTo N a a.length).getD c 0 ≤ (clusTo N b b.length).getD c 0 := by
  obtain ⟨p, hp, hw⟩ := h
  have hP := ords_perm hN hp
  have h1 := fit_in hN hp hP hw
  have hM := ha.inM
  have hinj : ∀ x ∈ a, ∀ y ∈ a, ((renM p x.toNat : Nat) : Int) = ((renM p y.toNat : Nat) : Int) → x = y := by
    intro x hx y hy e
    have e : renM p x.toNat = renM p y.toNat := by omega
    have hc := nat_pow_cast N
    have hx' := hM x hx
    have hy' := hM y hy
    have a1 := (fit_ok hN hp x.toNat (by omega)).1
    have a2 := (fit_ok hN hp y.toNat (by omega)).1
    rw [e, a2] at a1
    omega
  refine ⟨inj_len (fun x => ((renM p x.toNat : Nat) : Int)) a b (masks_nodup ha) hinj h1, fun c hc => ?_⟩
  rw [clus_at (by omega) ha c hc, clus_at (by omega) hb c hc]
  refine Int.ofNat_le.2 (inj_len (fun x => ((renM p x.toNat : Nat) : Int)) _ _ ((masks_nodup ha).filter _) (fun x hx y hy => hinj x (List.mem_filter.1 hx).1 y (List.mem_filter.1 hy).1) (fun x hx => ?_))
  have hx' := List.mem_filter.1 hx
  have := hM x hx'.1
  have hc := nat_pow_cast N
  refine List.mem_filter.2 ⟨h1 x hx'.1, ?_⟩
  have h2 := of_decide_eq_true hx'.2
  rw [Int.toNat_natCast, (fit_ok hN hp x.toNat (by omega)).2, h2]
  simp
theorem ords_nodup_all : ∀ N : Fin 6, (ords N.val N.val).Nodup := by decide +kernel
theorem ords_nodup {N : Nat} (hN : N ≤ 5) : (ords N N).Nodup := ords_nodup_all ⟨N, by omega⟩
theorem chain_at : ∀ (L : List (List Int)), chainB L = true → ∀ k (hk : k < L.length), nextL L[k] = L[k + 1]?
  | [], _, k, hk => absurd hk (Nat.not_lt_zero _)
  | [a], h, k, hk => by
    have : k = 0 := by simpa using hk
    subst this
    have h : (nextL a).isNone = true := h
    simpa using h
  | a :: b :: r, h, k, hk => by
    have h : (decide (nextL a = some b) && chainB (b :: r)) = true := h
    rw [Bool.and_eq_true] at h
    cases k with
    | zero => simpa using of_decide_eq_true h.1
    | succ k => have := chain_at (b :: r) h.2 k (by simpa using hk); simpa using this
theorem next_ok {N : Nat} (h1 : 1 ≤ N) (hN : N ≤ 5) : chainB (ords N N) = true ∧ 0 < (ords N N).length ∧ (∀ h : 0 < (ords N N).length, (ords N N)[0] = upto N) ∧ ∀ a ∈ ords N N, pivN a (a.length - 1) = 0 ∨ pivN a (a.length - 1) ≤ lstN a (a.getD (pivN a (a.length - 1) - 1) 0) (a.length - 1) := by
  have h := okNext_all ⟨N, by omega⟩ h1
  have hf := first_ord ⟨N, by omega⟩
  unfold okNext at h
  simp only [Bool.and_eq_true, Bool.or_eq_true, decide_eq_true_eq, List.all_eq_true] at h hf
  refine ⟨h.1.1, List.length_pos_iff.2 h.1.2, fun h0 => ?_, fun a ha => (h.2 a ha).2⟩
  rw [List.head?_eq_getElem?, List.getElem?_eq_getElem h0] at hf
  exact Option.some.inj hf
theorem Ints.uniq {w : World} {v : Value} {xs ys : List Int} (h1 : Ints w v xs) (h2 : Ints w v ys) : xs = ys := by
  obtain ⟨ao, cap, e1, _, _, _, c1⟩ := h1
  obtain ⟨ao2, cap2, e2, _, _, _, c2⟩ := h2
  rw [e1] at e2
  injection e2 with e3 e4 e5
  refine List.ext_getElem e4 fun i hi hj => ?_
  obtain ⟨b, o, u, a1, a2, a3⟩ := c1 i hi
  obtain ⟨b2, o2, u2, d1, d2, d3⟩ := c2 i hj
  rw [e3, d1] at a1
  injection a1 with a1
  injection a1 with f1 f2 f3
  subst f1 f2
  rw [d2] at a2
  injection a2 with a2
  subst a2
  have := a3.1.symm.trans d3.1
  injection this
/-- How many orders are ahead of the one that lies at v. -/
noncomputable def rk (L : List (List Int)) (w : World) (v : Value) : Nat := @dite _ (∃ k, ∃ hk : k < L.length, Ints w v L[k]) (Classical.propDecidable _) (fun h => L.length - h.choose) (fun _ => 0)
theorem rk_at {L : List (List Int)} {w : World} {v : Value} {k : Nat} (hn : L.Nodup) (hk : k < L.length) (h : Ints w v L[k]) : rk L w v = L.length - k := by
  have H : ∃ k, ∃ hk : k < L.length, Ints w v L[k] := ⟨k, hk, h⟩
  unfold rk
  rw [dif_pos H]
  obtain ⟨hk2, h2⟩ := H.choose_spec
  have e := h2.uniq h
  have := (List.getElem_inj hn).1 e
  rw [this]
end Go.Proofs.Ytldhbbbkfnfhoaa
