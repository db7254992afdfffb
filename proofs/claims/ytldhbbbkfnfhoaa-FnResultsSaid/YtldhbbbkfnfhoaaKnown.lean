/- Contracts: KnownOrder, the program's and the reference's. -/
import Derived.Test.YtldhbbbkfnfhoaaResOf
import Derived.Test.YtldhbbbkfnfhoaaGridApp
import Derived.Test.YtldhbbbkfnfhoaaNetIn
import Derived.Test.YtldhbbbkfnfhoaaNb
import Derived.Test.YtldhbbbkfnfhoaaUp
namespace Go.Proofs.Ytldhbbbkfnfhoaa
open Go.RowKit
set_option linter.unusedVariables false

/-- Mask m has a one at wire i and a zero at wire k. -/
def BadM (i k : Nat) (m : Int) : Prop := m.toNat / 2 ^ i % 2 = 1 ∧ m.toNat / 2 ^ k % 2 = 0
def KoTo (xs : List Int) (i k t : Nat) : Prop := i ≠ k ∧ ∀ m ∈ xs.take t, ¬ BadM i k m
def KoP (xs : List Int) (i k : Nat) : Prop := i ≠ k ∧ ∀ m ∈ xs, ¬ BadM i k m
noncomputable def koIn (xs : List Int) (i : Nat) : Nat → List (List Int)
  | 0 => []
  | k + 1 => koIn xs i k ++ (bif tf (KoP xs i k) then [[(i : Int), (k : Int)]] else [])
noncomputable def koOut (xs : List Int) (N : Nat) : Nat → List (List Int)
  | 0 => []
  | i + 1 => koOut xs N i ++ koIn xs i N
theorem koIn_yes {xs : List Int} {i k : Nat} (h : KoP xs i k) : koIn xs i (k + 1) = koIn xs i k ++ [[(i : Int), (k : Int)]] := by
  show koIn xs i k ++ _ = _; rw [tf_yes h]; rfl
theorem koIn_no {xs : List Int} {i k : Nat} (h : ¬ KoP xs i k) : koIn xs i (k + 1) = koIn xs i k := by
  show koIn xs i k ++ _ = _; rw [tf_no h]; simp
theorem koIn_le (xs : List Int) (i k : Nat) : (koIn xs i k).length ≤ k := by
  induction k with
  | zero => exact Nat.le_refl _
  | succ k ih =>
    rcases Classical.em (KoP xs i k) with h | h
    · rw [koIn_yes h, List.length_append]; simp; omega
    · rw [koIn_no h]; omega
theorem koOut_le (xs : List Int) (N i : Nat) : (koOut xs N i).length ≤ i * N := by
  induction i with
  | zero => exact Nat.zero_le _
  | succ i ih =>
    show (koOut xs N i ++ koIn xs i N).length ≤ _
    rw [List.length_append, Nat.succ_mul]
    have := koIn_le xs i N
    omega
theorem koIn_two (xs : List Int) (i k : Nat) : ∀ r ∈ koIn xs i k, r.length ≤ 2 := by
  induction k with
  | zero => intro r hr; cases hr
  | succ k ih =>
    rcases Classical.em (KoP xs i k) with h | h
    · rw [koIn_yes h]
      intro r hr
      rcases List.mem_append.1 hr with h | h
      · exact ih r h
      · simp only [List.mem_singleton] at h; subst h; simp
    · rw [koIn_no h]; exact ih
theorem koOut_two (xs : List Int) (N i : Nat) : ∀ r ∈ koOut xs N i, r.length ≤ 2 := by
  induction i with
  | zero => intro r hr; cases hr
  | succ i ih =>
    intro r hr
    rcases List.mem_append.1 hr with h | h
    · exact ih r h
    · exact koIn_two _ _ _ r h
theorem koTo_zero {xs : List Int} {i k : Nat} : KoTo xs i k 0 ↔ i ≠ k := by simp [KoTo]
theorem koTo_all {xs : List Int} {i k : Nat} : KoTo xs i k xs.length ↔ KoP xs i k := by simp [KoTo, KoP]
theorem koTo_yes {xs : List Int} {i k t : Nat} (ht : t < xs.length) (h : KoTo xs i k t) (hb : ¬ BadM i k xs[t]) : KoTo xs i k (t + 1) := by
  refine ⟨h.1, fun m hm => ?_⟩
  rw [List.take_succ_eq_append_getElem ht] at hm
  rcases List.mem_append.1 hm with h1 | h1
  · exact h.2 m h1
  · rw [List.mem_singleton] at h1; rw [h1]; exact hb
theorem koTo_no {xs : List Int} {i k t : Nat} (h : ¬ KoTo xs i k t) : ¬ KoTo xs i k (t + 1) := fun h1 => h ⟨h1.1, fun m hm => h1.2 m (by
  rw [List.mem_take_iff_getElem] at hm ⊢
  obtain ⟨j, hj, he⟩ := hm
  exact ⟨j, by omega, he⟩)⟩
theorem koTo_bad {xs : List Int} {i k t : Nat} (ht : t < xs.length) (hb : BadM i k xs[t]) : ¬ KoTo xs i k (t + 1) := fun h1 => h1.2 xs[t] (by rw [List.take_succ_eq_append_getElem ht]; exact List.mem_append_right _ (List.mem_singleton.2 rfl)) hb
noncomputable def koN (n : Int) (rows : List (List Int)) : List (List Int) := nbR (NetP n rows) (koOut (resN n rows) n.toNat n.toNat)
theorem ko_le (n : Int) (rows : List (List Int)) : sumLen (koN n rows) ≤ 128 := nbR_le fun h => by
  have h1 := sumLen_le2 (koOut (resN n rows) n.toNat n.toNat) (koOut_two _ _ _)
  have h2 := koOut_le (resN n rows) n.toNat n.toNat
  have h3 : n.toNat ≤ 8 := by have := h.1; unfold InP at this; omega
  have h4 : n.toNat * n.toNat ≤ 8 * 8 := Nat.mul_le_mul h3 h3
  omega
theorem resN_in (n : Int) (rows : List (List Int)) : InM 256 (resN n rows) := by
  rcases Classical.em (NetP n rows) with h | h
  · have h1 : n ≤ 8 := by have := h.1; unfold InP at this; omega
    have h2 := pow256 h1
    intro x hx
    have h3 := imgL_bd _ _ x (by rw [resN, onlyI_yes h] at hx; exact hx)
    omega
  · intro x hx
    rw [resN, onlyI_no h] at hx
    cases hx
theorem resN_some {n : Int} {rows : List (List Int)} (h : NetP n rows) : resN n rows ≠ [] := by
  have hb : ∀ y ∈ mapF (bitsN (pairsOf rows)) (upto (2 ^ n.toNat)), 0 ≤ y ∧ y < (2 ^ n.toNat : Nat) := mapF_bd fun x hx => by
    obtain ⟨N, rfl, hr, hp⟩ := h.pairs
    have := upto_in _ x hx
    rw [Int.toNat_natCast] at this ⊢
    exact bitsN_pow hp _ (by omega)
  have hp := Nat.two_pow_pos n.toNat
  have h0 : (0 : Int) ∈ upto (2 ^ n.toNat) := List.mem_map.2 ⟨0, List.mem_range.2 hp, rfl⟩
  have h1 : ((bitsN (pairsOf rows) (0 : Int).toNat : Nat) : Int) ∈ mapF (bitsN (pairsOf rows)) (upto (2 ^ n.toNat)) := List.mem_map.2 ⟨0, h0, rfl⟩
  have h2 := (mem_imgL hb _).2 h1
  intro he
  rw [resN, onlyI_yes h] at he
  rw [he] at h2
  cases h2
theorem kn_news (w : World) (o1 : Obj) (v : Value) (t : TypeId) : ∀ (j : Nat) (u : Value), [v][j]? = some u → (((w.alloc o1).alloc (.cells #[v] t)).cell? ((⟨w.heap.size + 1, 0, none⟩ : Addr).add j) = some u) := by
  intro j u hj
  have := news_two w o1 v t j u hj
  simpa using this
theorem kn_below (wr : World) (o1 o2 : Obj) : Below wr.heap.size wr ((wr.alloc o1).alloc o2) := (((Below.refl _ wr).alloc (Nat.le_refl _) o1).alloc (by simp) o2)
theorem kn_pair (wr : World) (a b : Int) (ha : In64 a) (hb : In64 b) (o2 : Obj) : OwnI tInt ((wr.alloc (.cells #[.int .i64 a, .int .i64 b] tInt)).alloc o2) wr.heap.size ((wr.alloc (.cells #[.int .i64 a, .int .i64 b] tInt)).alloc o2).heap.size (.slice (some ⟨wr.heap.size, 0, none⟩) 2 2) [a, b] :=
  ((Fills.lit tInt wr wr.heap.size [a, b] #[.int .i64 a, .int .i64 b] rfl (Nat.le_refl _) (by simp [maxLen])).alloc o2).own (by simp; omega) (by intro x hx; simp at hx; rcases hx with rfl | rfl <;> assumption)
theorem OwnI.grownX {W w' : World} {l h lo hi : Nat} {u v : Value} {ys : List Int} {vs : List Value} (ho : OwnI tInt W l h u ys) (hOW : Own tInts W lo hi v vs) (hg : W.grownBy w' v.ownBlock) : OwnI tInt w' l h u ys :=
  ⟨⟨ownsRow_block ho.1.1 fun g hgu => hg.block g (ho.1.lt hgu).2.2 (fun e => own_ne ho.1 hOW (by decide) hgu e.symm), ho.1.2⟩, ho.2⟩

end Go.Proofs.Ytldhbbbkfnfhoaa
