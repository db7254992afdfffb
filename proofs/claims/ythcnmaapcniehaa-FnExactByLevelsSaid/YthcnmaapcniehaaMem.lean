/- Readings of slices in memory: what a slice value holds (Sl), what a fresh row owns (Own), and what stays when other blocks are written. No program is named. -/
import Derived.Test.YthcnmaapcniehaaKit
import Derived.Deep.Matrix
import Derived.Lib.SmallJoins
import Derived.SliceStrings
import Derived.Deep.OwnRows
import Derived.Deep.QuietTactic
import Derived.BigQuiet
namespace Go.Proofs.Ythcnmaapcniehaa
open Go.RowKit Go.ChangeShapes Go.WideShapes
set_option linter.unusedVariables false

/-- Every cell that was there holds what it held. -/
def Keeps (w w' : World) : Prop := ∀ a u, w.cell? a = some u → w'.cell? a = some u

theorem Below.keeps {w w' : World} (h : Below w.heap.size w w') : Keeps w w' := fun a u hu => (h.cell (World.block_lt_of_cell? w a hu)).trans hu
theorem Keeps.trans {a b c : World} (h : Keeps a b) (k : Keeps b c) : Keeps a c := fun x u hu => k x u (h x u hu)

/-- The slice value v reads as the elements xs, each as R says. -/
def Sl {α : Type} (R : World → Value → α → Prop) (w : World) (v : Value) (xs : List α) : Prop :=
  ∃ (ao : Option Addr) (cap : Nat), v = .slice ao xs.length cap ∧ xs.length ≤ cap ∧ cap ≤ maxLen ∧ (ao = none → cap = 0) ∧
    ∀ k (h : k < xs.length), ∃ b o u, ao = some ⟨b, o, none⟩ ∧ w.cell? ⟨b, o + k, none⟩ = some u ∧ R w u xs[k]

theorem Sl.keep {α : Type} {R : World → Value → α → Prop} {w w' : World} {v : Value} {xs : List α} (h : Sl R w v xs) (hk : Keeps w w') (hR : ∀ u x, R w u x → R w' u x) : Sl R w' v xs := by
  obtain ⟨ao, cap, h1, h2, h3, h4, h5⟩ := h
  refine ⟨ao, cap, h1, h2, h3, h4, fun k hk' => ?_⟩
  obtain ⟨b, o, u, e1, e2, e3⟩ := h5 k hk'
  exact ⟨b, o, u, e1, hk _ _ e2, hR _ _ e3⟩

def IntAt (_ : World) (u : Value) (x : Int) : Prop := u = .int .i64 x ∧ In64 x
def StrAt (_ : World) (u : Value) (s : ByteArray) : Prop := u = .string s ∧ s.size ≤ maxLen
def Ints (w : World) (v : Value) (xs : List Int) : Prop := Sl IntAt w v xs
def Strs (w : World) (v : Value) (xs : List ByteArray) : Prop := Sl StrAt w v xs
def IntSS (w : World) (v : Value) (xs : List (List Int)) : Prop := Sl Ints w v xs

theorem Ints.keep {w w' : World} {v : Value} {xs : List Int} (h : Ints w v xs) (hk : Keeps w w') : Ints w' v xs := Sl.keep h hk fun _ _ h => h
theorem Strs.keep {w w' : World} {v : Value} {xs : List ByteArray} (h : Strs w v xs) (hk : Keeps w w') : Strs w' v xs := Sl.keep h hk fun _ _ h => h
theorem IntSS.keep {w w' : World} {v : Value} {xs : List (List Int)} (h : IntSS w v xs) (hk : Keeps w w') : IntSS w' v xs := Sl.keep h hk fun _ _ h => Ints.keep h hk

theorem spot_none {w : World} {x : Addr} {n : Nat} {V : Nat → Value} (h : ∀ i, i < n → w.cell? (x.add i) = some (V i)) (hn : 0 < n) : x = ⟨x.block, x.off, none⟩ := by
  have h0 := h 0 hn
  have : x.spot = none := by simpa [Addr.add] using World.cell?_spot h0
  cases x; simp_all

section
variable {H : Type} {enc : TypeId × Value → H} {P : Program} {W : World} {r : Reach} {base : Nat} {t e q : TypeId} {v : Value} {d : DataW H} {p : List MemPlace}

theorem open_ints' (ht : P.underlying t = some (.slice e)) (he : P.underlying e = some (.int .i64)) (hc : P.cellsOf e = 1) {fuel : Nat} {x : DataW H × List MemPlace}
    (hf : DataW.trod enc P W 0 (fun _ => true) true fuel t [v] = some x) : ∃ xs, Ints W v xs := by
  rcases open_ints ht he hc hf with ⟨hcs, _⟩ | ⟨x, l, c, zs, hcs, _, hl, hm, hz, _, hcell, hwz⟩
  · simp at hcs; subst hcs
    exact ⟨[], none, 0, rfl, Nat.le_refl _, Nat.zero_le _, fun _ => rfl, fun k hk => absurd hk (Nat.not_lt_zero _)⟩
  · simp at hcs; subst hcs
    simp only [if_true] at hz
    refine ⟨zs.take l, some x, c, by simp [hz, hl], by simp [hz, hl], hm, (fun h => by cases h), fun k hk => ?_⟩
    have hk1 : k < l := by simp at hk; omega
    have hk2 : k < zs.length := by omega
    have hs := spot_none hcell (by omega)
    refine ⟨x.block, x.off, .int .i64 (zs.getD k 0), by rw [← hs], ?_, ?_⟩
    · rw [← hcell k hk2]; conv => rhs; rw [hs]
      rw [Addr.add_lit]
    · have e1 : (zs.take l)[k] = zs.getD k 0 := by simp [hk2]
      rw [e1]
      exact ⟨rfl, hwz _ (by simp [hk2])⟩

theorem Ints.of_trod (ht : P.underlying t = some (.slice e)) (he : P.underlying e = some (.int .i64)) (hc : P.cellsOf e = 1)
    (hv : Value.okWide P W r base t v) (h : DataW.Trod enc P W 0 (fun _ => true) true t v d p) : ∃ xs, Ints W v xs := by
  obtain ⟨a, len, cap, rfl⟩ := okWide_slice ht hv
  obtain ⟨fuel, hf⟩ := h
  exact open_ints' ht he hc (by simpa [Value.cells] using hf)

theorem Strs.of_trod (ht : P.underlying t = some (.slice e)) (he : P.underlying e = some .string) (hc : P.cellsOf e = 1)
    (hv : Value.okWide P W r base t v) (h : DataW.Trod enc P W 0 (fun _ => true) true t v d p) : ∃ xs, Strs W v xs := by
  obtain ⟨a, len, cap, rfl⟩ := okWide_slice ht hv
  obtain ⟨fuel, hf⟩ := h
  rcases open_strings ht he hc hf with ⟨hcs, _⟩ | ⟨x, l, c, zs, hcs, _, hl, hm, hz, _, hcell, hwz⟩
  · simp [Value.cells] at hcs; obtain ⟨rfl, rfl, rfl⟩ := hcs
    exact ⟨[], none, 0, rfl, Nat.le_refl _, Nat.zero_le _, fun _ => rfl, fun k hk => absurd hk (Nat.not_lt_zero _)⟩
  · simp [Value.cells] at hcs; obtain ⟨rfl, rfl, rfl⟩ := hcs
    simp only [if_true] at hz
    refine ⟨zs.take len, some x, cap, by simp [hz, hl], by simp [hz, hl], hm, (fun h => by cases h), fun k hk => ?_⟩
    have hk1 : k < len := by simp at hk; omega
    have hk2 : k < zs.length := by omega
    have hs := spot_none hcell (by omega)
    refine ⟨x.block, x.off, .string (zs.getD k ByteArray.empty), by rw [← hs], ?_, ?_⟩
    · rw [← hcell k hk2]; conv => rhs; rw [hs]
      rw [Addr.add_lit]
    · have e1 : (zs.take len)[k] = zs.getD k ByteArray.empty := by simp [hk2]
      rw [e1]
      exact ⟨rfl, hwz _ (by simp [hk2])⟩

theorem IntSS.of_cell (ht : P.underlying t = some (.slice e)) (he : P.underlying e = some (.slice q)) (hq : P.underlying q = some (.int .i64)) (ce : P.cellsOf e = 1) (cq : P.cellsOf q = 1)
    {fuel : Nat} {x : DataW H × List MemPlace} (hf : DataW.trod enc P W 0 (fun _ => true) true fuel t [v] = some x) : ∃ xs, IntSS W v xs := by
  rcases Go.Deep.open_int_rows ht he hq ce cq hf with ⟨hcs, _⟩ | ⟨a, len, cap, A, L, C, Z, hcs, _, hl, hm, _, hr⟩
  · simp at hcs; subst hcs
    exact ⟨[], none, 0, rfl, Nat.le_refl _, Nat.zero_le _, fun _ => rfl, fun k hk => absurd hk (Nat.not_lt_zero _)⟩
  · simp at hcs; subst hcs
    refine ⟨(List.range len).map fun i => (Z i).take (L i), some a, cap, by simp, by simpa using hl, hm, (fun h => by cases h), fun k hk => ?_⟩
    have hk1 : k < len := by simpa using hk
    obtain ⟨c1, c2, c3, c4, c5, c6, c7⟩ := hr k (by omega)
    have hs := spot_none (fun i hi => (hr i hi).1) (by omega : 0 < cap)
    refine ⟨a.block, a.off, .slice (A k) (L k) (C k), by rw [← hs], ?_, ?_⟩
    · rw [← c1]; conv => rhs; rw [hs]
      rw [Addr.add_lit]
    · have e1 : ((List.range len).map fun i => (Z i).take (L i))[k] = (Z k).take (L k) := by simp
      rw [e1]
      refine ⟨A k, C k, by simp [c4, c2], by simp [c4, c2], c3, c6, fun j hj => ?_⟩
      have hj1 : j < L k := by simp at hj; omega
      have hj2 : j < (Z k).length := by omega
      cases hA : A k with
      | none => have := c6 hA; omega
      | some a' =>
        have h7 := (c7 a' hA).2
        have hs' := spot_none h7 (by omega : 0 < C k)
        refine ⟨a'.block, a'.off, .int .i64 ((Z k).getD j 0), by rw [← hs'], ?_, ?_⟩
        · rw [← h7 j (by omega)]; conv => rhs; rw [hs']
          rw [Addr.add_lit]
        · have e2 : ((Z k).take (L k))[j] = (Z k).getD j 0 := by simp [hj2]
          rw [e2]
          exact ⟨rfl, c5 _ (by simp [hj2])⟩
end

/-- A fresh row of cells us, in a block from lo on and below hi, not frozen; or nothing. -/
def Own (e : TypeId) (w : World) (lo hi : Nat) (v : Value) (us : List Value) : Prop := w.ownsRow lo e 1 v us.length us ∧ ∀ g, v.ownBlock = some g → g < hi

/-- What is not written: all blocks that were there, outside [lo, hi). -/
structure Chg (lo hi : Nat) (w w' : World) : Prop where
  os : w'.os = w.os
  tape : w'.tape = w.tape
  output : w'.output = w.output
  size : w.heap.size ≤ w'.heap.size
  block : ∀ k, k < w.heap.size → (k < lo ∨ hi ≤ k) → w'.heap[k]? = w.heap[k]?

theorem Chg.of_below {B : Nat} {w w' : World} (h : Below B w w') (hi : Nat) (hhi : w.heap.size ≤ hi) : Chg B hi w w' :=
  ⟨h.os, h.tape, h.output, h.size, fun k hk ho => by rcases ho with ho | ho; exact h.block k ho; omega⟩

theorem Chg.below {lo hi : Nat} {w w' : World} (h : Chg lo hi w w') {B : Nat} (hB : B ≤ w.heap.size) (hl : B ≤ lo) : Below B w w' :=
  ⟨h.os, h.tape, h.output, h.size, fun k hk => h.block k (by omega) (.inl (by omega))⟩

theorem Own.lt {e : TypeId} {w : World} {lo hi : Nat} {v : Value} {us : List Value} (h : Own e w lo hi v us) {g : Nat} (hg : v.ownBlock = some g) : lo ≤ g ∧ g < hi ∧ g < w.heap.size :=
  ⟨(h.1.lt g hg).1, h.2 g hg, (h.1.lt g hg).2⟩

theorem ownsRow_block {w w' : World} {base : Nat} {e : TypeId} {size : Nat} {v : Value} {n : Nat} {xs : List Value} (h : w.ownsRow base e size v n xs) (hg : ∀ g, v.ownBlock = some g → w'.heap[g]? = w.heap[g]?) : w'.ownsRow base e size v n xs := by
  refine ⟨h.1, ?_⟩
  rcases h.2 with hn | ⟨g, cap, cur, rfl, hb, hgg, rest⟩
  · exact .inl hn
  · exact .inr ⟨g, cap, cur, rfl, hb, by rw [hg g rfl]; exact hgg, rest⟩

theorem Own.chg {e : TypeId} {w w' : World} {lo hi l h' : Nat} {v : Value} {us : List Value} (h : Own e w lo hi v us) (hc : Chg l h' w w') (hd : hi ≤ l ∨ h' ≤ lo) : Own e w' lo hi v us :=
  ⟨ownsRow_block h.1 fun g hg => by have := h.lt hg; exact hc.block g (by omega) (by omega), h.2⟩

theorem Own.below {e : TypeId} {w w' : World} {lo hi : Nat} {v : Value} {us : List Value} (h : Own e w lo hi v us) {B : Nat} (hb : Below B w w') (hd : hi ≤ B) : Own e w' lo hi v us :=
  ⟨ownsRow_block h.1 fun g hg => by have := h.lt hg; exact hb.block g (by omega), h.2⟩

theorem Own.wide {e : TypeId} {w : World} {lo hi lo' hi' : Nat} {v : Value} {us : List Value} (h : Own e w lo hi v us) (h1 : lo' ≤ lo) (h2 : hi ≤ hi') : Own e w lo' hi' v us := by
  refine ⟨⟨h.1.1, ?_⟩, fun g hg => by have := h.2 g hg; omega⟩
  rcases h.1.2 with hn | ⟨g, cap, cur, rfl, hb, r⟩
  · exact .inl hn
  · exact .inr ⟨g, cap, cur, rfl, by omega, r⟩

/-- The row, opened: nil; or a block with its cells. -/
theorem Own.cases {e : TypeId} {w : World} {lo hi : Nat} {v : Value} {us : List Value} (h : Own e w lo hi v us) :
    (v = .slice none 0 0 ∧ us = []) ∨ ∃ g cap, v = .slice (some ⟨g, 0, none⟩) us.length cap ∧ us.length ≤ cap ∧ cap ≤ maxLen ∧ lo ≤ g ∧ g < hi ∧ g < w.heap.size ∧
      w.ownsRow lo e 1 (.slice (some ⟨g, 0, none⟩) us.length cap) us.length us ∧ (∀ j (hj : j < us.length), w.cell? ⟨g, j, none⟩ = some us[j]) ∧ ∀ j, w.frozen? ⟨g, j, none⟩ = false := by
  obtain ⟨h1, h2⟩ := h
  have h1' := h1
  rcases h1.2 with ⟨rfl, hn⟩ | ⟨g, cap, cur, rfl, hb, hgg, hnc, hcm, hcs, htake⟩
  · exact .inl ⟨rfl, List.eq_nil_of_length_eq_zero hn⟩
  · refine .inr ⟨g, cap, rfl, hnc, hcm, hb, h2 g rfl, (h1.lt g rfl).2, h1', fun j hj => ?_, fun j => h1'.frozenAt j⟩
    rw [h1'.cellAt j (by omega)]; simp [hj]

theorem Own.sl {α : Type} {R : World → Value → α → Prop} {e : TypeId} {w : World} {lo hi : Nat} {v : Value} {us : List Value} {xs : List α} (h : Own e w lo hi v us) (hl : us.length = xs.length)
    (hR : ∀ k (h1 : k < us.length) (h2 : k < xs.length), R w us[k] xs[k]) : Sl R w v xs := by
  rcases h.cases with ⟨rfl, rfl⟩ | ⟨g, cap, rfl, h1, h2, _, _, _, _, hc, _⟩
  · exact ⟨none, 0, by simp [← hl], by simp [← hl], Nat.zero_le _, fun _ => rfl, fun k hk => by simp [← hl] at hk⟩
  · exact ⟨some ⟨g, 0, none⟩, cap, by rw [hl], by omega, h2, (fun h => by cases h), fun k hk => ⟨g, 0, us[k]'(by omega), rfl, by rw [Nat.zero_add]; exact hc k (by omega), hR k (by omega) hk⟩⟩

/-- A fresh row of integers. -/
def OwnI (e : TypeId) (w : World) (lo hi : Nat) (v : Value) (xs : List Int) : Prop := Own e w lo hi v (xs.map (Value.int .i64)) ∧ ∀ x ∈ xs, In64 x
theorem OwnI.ints {e : TypeId} {w : World} {lo hi : Nat} {v : Value} {xs : List Int} (h : OwnI e w lo hi v xs) : Ints w v xs :=
  h.1.sl (by simp) fun k h1 h2 => by simp [IntAt]; exact h.2 _ (by simp)
theorem OwnI.below {e : TypeId} {w w' : World} {lo hi : Nat} {v : Value} {xs : List Int} (h : OwnI e w lo hi v xs) {B : Nat} (hb : Below B w w') (hd : hi ≤ B) : OwnI e w' lo hi v xs := ⟨h.1.below hb hd, h.2⟩
theorem OwnI.chg {e : TypeId} {w w' : World} {lo hi l h' : Nat} {v : Value} {xs : List Int} (h : OwnI e w lo hi v xs) (hc : Chg l h' w w') (hd : hi ≤ l ∨ h' ≤ lo) : OwnI e w' lo hi v xs := ⟨h.1.chg hc hd, h.2⟩

/-- A fresh row of strings. -/
def OwnS (e : TypeId) (w : World) (lo hi : Nat) (v : Value) (xs : List ByteArray) : Prop := Own e w lo hi v (xs.map Value.string) ∧ ∀ x ∈ xs, x.size ≤ maxLen
theorem OwnS.strs {e : TypeId} {w : World} {lo hi : Nat} {v : Value} {xs : List ByteArray} (h : OwnS e w lo hi v xs) : Strs w v xs :=
  h.1.sl (by simp) fun k h1 h2 => by simp [StrAt]; exact h.2 _ (by simp)
theorem OwnS.below {e : TypeId} {w w' : World} {lo hi : Nat} {v : Value} {xs : List ByteArray} (h : OwnS e w lo hi v xs) {B : Nat} (hb : Below B w w') (hd : hi ≤ B) : OwnS e w' lo hi v xs := ⟨h.1.below hb hd, h.2⟩
theorem OwnS.chg {e : TypeId} {w w' : World} {lo hi l h' : Nat} {v : Value} {xs : List ByteArray} (h : OwnS e w lo hi v xs) (hc : Chg l h' w w') (hd : hi ≤ l ∨ h' ≤ lo) : OwnS e w' lo hi v xs := ⟨h.1.chg hc hd, h.2⟩

/-- append of one element to a row of the call's own: a row of the call's own again, one element longer. -/
theorem wpList_append1 {P : Program} (w : World) {ops : Array Oper} {rest : List Oper} {o : Oper} {a : Act} {Q : Exit → Act → World → Prop} (hgd : o.guard = none) (s x : Operand) (t : TypeId)
    (ho : o.op = .call { callee := .builtin .append, args := #[s, x], argTypes := #[t, t] })
    (e : TypeId) (z : Value) (bytes : Nat) (ht : P.underlying t = some (.slice e)) (hinfo : (P.info? e).map (fun i => (i.zero, i.size, i.bytes)) = some (some z, 1, bytes)) (hby : bytes ≤ 24) (hz1 : z.cells = #[z])
    (lo hi : Nat) (v : Value) (us : List Value) (hs : a.eval s = v) (hown : Own e w lo hi v us)
    (ad : Addr) (c : Nat) (u : Value) (hx : a.eval x = .slice (some ad) 1 c) (hcell : w.cell? ad = some u) (h1 : u.oneCell' = true)
    (hlen : us.length < 4294967296) (hlo : lo ≤ w.heap.size)
    (h : ∀ v' w', Own e w' lo w'.heap.size v' (us ++ [u]) → w.grownBy w' v.ownBlock → wpList P ops Q rest (a.put o.dst v') w') : wpList P ops Q (o :: rest) a w := by
  obtain ⟨i, hi', hz0, hz2, hz3⟩ := info_parts hinfo
  refine wpList_append_own w hgd s x t ho lo e i z 1 bytes ht hi' hz0 hz2 hz3 (by rw [hz1]; rfl) (by decide) v us.length us hs hown.1 ad 1 c [u] hx rfl ?_ ?_ ?_ ?_ hlo ?_
  · intro j q hj
    match j, hj with
    | 0, hj => simp at hj; subst hj; simpa [Addr.add] using hcell
  · intro q hq; simp at hq; subst hq; exact h1
  · unfold maxLen; omega
  · have : (us.length + 1) * bytes ≤ (us.length + 1) * 24 := Nat.mul_le_mul_left _ hby
    omega
  · intro v' w' hown' hg _
    exact h v' w' ⟨by simpa using hown', fun g hg' => (hown'.lt g hg').2⟩ hg

/-- The old memory behind such an append. -/
theorem below_app {B lo hi : Nat} {e : TypeId} {w0 w w' : World} {v : Value} {us : List Value} (hb : Below B w0 w) (hown : Own e w lo hi v us) (hg : w.grownBy w' v.ownBlock) (hB : B ≤ lo) (hlo : lo ≤ w.heap.size) : Below B w0 w' :=
  hb.grown hg (by omega) fun k hk => by have := (hown.lt hk).1; omega

/-- An empty literal: a row of no cells in a new block. -/
theorem Own.lit0 (e : TypeId) (w : World) (lo : Nat) (hlo : lo ≤ w.heap.size) : Own e (w.alloc (.cells #[] e)) lo (w.alloc (.cells #[] e)).heap.size (.slice (some ⟨w.heap.size, 0, none⟩) 0 0) [] :=
  ⟨World.ownsRow_made w #[] 0 hlo (Nat.zero_le _) rfl, fun g hg => by simp [Value.ownBlock] at hg; simp; omega⟩

theorem OwnI.lit0 (e : TypeId) (w : World) (lo : Nat) (hlo : lo ≤ w.heap.size) : OwnI e (w.alloc (.cells #[] e)) lo (w.alloc (.cells #[] e)).heap.size (.slice (some ⟨w.heap.size, 0, none⟩) 0 0) [] := ⟨Own.lit0 e w lo hlo, by simp⟩

theorem Own.nil (e : TypeId) (w : World) (lo hi : Nat) : Own e w lo hi (.slice none 0 0) [] := ⟨World.ownsRow_nil _ _ _ _, fun g hg => by simp [Value.ownBlock] at hg⟩
theorem Own.alloc {e : TypeId} {w : World} {lo hi : Nat} {v : Value} {us : List Value} (h : Own e w lo hi v us) (o : Obj) : Own e (w.alloc o) lo hi v us := ⟨h.1.alloc o, h.2⟩

end Go.Proofs.Ythcnmaapcniehaa
