/- Valid networks as lists of pairs of wires; what a comparator does to a mask. No program is named. -/
import Derived.Test.YthcnmaapcniehaaGrid
import Derived.Test.YthcnmaapcniehaaBits
namespace Go.Proofs.Ythcnmaapcniehaa
open Go.RowKit
set_option linter.unusedVariables false

/-- A pair of different wires. -/
def PairP (n : Int) (p : List Int) : Prop := ∃ a b, p = [a, b] ∧ InP 0 a (n - 1) ∧ InP 0 b (n - 1) ∧ a ≠ b
def NetP (n : Int) (rows : List (List Int)) : Prop := InP 1 n 8 ∧ rows.length ≤ 60 ∧ ∀ i (h : i < rows.length), PairP n rows[i]

def rowsOf (ps : List (Nat × Nat)) : List (List Int) := ps.map fun p => [(p.1 : Int), (p.2 : Int)]
def pairsOf (rows : List (List Int)) : List (Nat × Nat) := rows.map fun r => ((r.getD 0 0).toNat, (r.getD 1 0).toNat)
/-- Pairs of different wires of n. -/
def PsOk (n : Nat) (ps : List (Nat × Nat)) : Prop := 1 ≤ n ∧ n ≤ 8 ∧ ps.length ≤ 60 ∧ ∀ i (h : i < ps.length), ps[i].1 < n ∧ ps[i].2 < n ∧ ps[i].1 ≠ ps[i].2

theorem rowsOf_length (ps : List (Nat × Nat)) : (rowsOf ps).length = ps.length := by simp [rowsOf]
theorem rowsOf_get (ps : List (Nat × Nat)) (i : Nat) (h : i < ps.length) (h' : i < (rowsOf ps).length) : (rowsOf ps)[i] = [(ps[i].1 : Int), (ps[i].2 : Int)] := by simp [rowsOf]
theorem sumLen_rowsOf (ps : List (Nat × Nat)) : sumLen (rowsOf ps) = 2 * ps.length := by
  induction ps with
  | nil => rfl
  | cons p ps ih => unfold sumLen rowsOf at *; simp at *; omega
theorem pairsOf_rowsOf (ps : List (Nat × Nat)) : pairsOf (rowsOf ps) = ps := by
  induction ps with
  | nil => rfl
  | cons p ps ih => unfold pairsOf rowsOf at *; simp only [List.map_cons, ih]; simp

theorem NetP.pairs {n : Int} {rows : List (List Int)} (h : NetP n rows) : ∃ m : Nat, n = (m : Int) ∧ rows = rowsOf (pairsOf rows) ∧ PsOk m (pairsOf rows) := by
  obtain ⟨⟨h1, h2⟩, h3, h4⟩ := h
  refine ⟨n.toNat, by omega, ?_, by omega, by omega, by simpa [pairsOf] using h3, fun i hi => ?_⟩
  · refine List.ext_getElem (by simp [rowsOf, pairsOf]) fun i i1 i2 => ?_
    obtain ⟨a, b, hp, ⟨ha1, ha2⟩, ⟨hb1, hb2⟩, _⟩ := h4 i i1
    simp only [rowsOf, pairsOf, List.getElem_map, hp, List.getD_cons_zero, List.getD_cons_succ, List.cons.injEq, and_true]
    exact ⟨by omega, by omega⟩
  · have hi' : i < rows.length := by simpa [pairsOf] using hi
    obtain ⟨a, b, hp, ⟨ha1, ha2⟩, ⟨hb1, hb2⟩, hne⟩ := h4 i hi'
    simp only [pairsOf, List.getElem_map, hp, List.getD_cons_zero, List.getD_cons_succ]
    exact ⟨by omega, by omega, by omega⟩

theorem PsOk.netP {n : Nat} {ps : List (Nat × Nat)} (h : PsOk n ps) : NetP n (rowsOf ps) := by
  obtain ⟨h1, h2, h3, h4⟩ := h
  refine ⟨⟨by omega, by omega⟩, by rw [rowsOf_length]; exact h3, fun i hi => ?_⟩
  have hi' : i < ps.length := by rwa [rowsOf_length] at hi
  obtain ⟨a1, a2, a3⟩ := h4 i hi'
  rw [rowsOf_get ps i hi']
  exact ⟨_, _, rfl, ⟨by omega, by omega⟩, ⟨by omega, by omega⟩, by omega⟩

/-- A pair's two cells. -/
theorem ints_pair {w : World} {u : Value} {a b : Int} (h : Ints w u [a, b]) : ∃ x o c, u = .slice (some ⟨x, o, none⟩) 2 c ∧ 2 ≤ c ∧ c ≤ maxLen ∧ w.cell? ⟨x, o, none⟩ = some (.int .i64 a) ∧ w.cell? ⟨x, o + 1, none⟩ = some (.int .i64 b) ∧ In64 a ∧ In64 b := by
  obtain ⟨ao, cap, rfl, hcap, hmax, hnil, hcell⟩ := h
  obtain ⟨x, o, u0, rfl, h0, rfl, w0⟩ := hcell 0 (by simp)
  obtain ⟨x1, o1, u1, e1, h1, rfl, w1⟩ := hcell 1 (by simp)
  simp only [Option.some.injEq, Addr.mk.injEq] at e1
  obtain ⟨rfl, rfl, -⟩ := e1
  exact ⟨x, o, cap, rfl, by simpa using hcap, hmax, by simpa using h0, by simpa using h1, by simpa using w0, by simpa using w1⟩

/-- The cells that a walk over a network's pairs reads: the pair's own slice, its two numbers. -/
def PairAt (w : World) (ao : Option Addr) (ps : List (Nat × Nat)) (k : Nat) (h : k < ps.length) : Prop :=
  ∃ b o x po pc, ao = some ⟨b, o, none⟩ ∧ w.cell? ⟨b, o + k, none⟩ = some (.slice (some ⟨x, po, none⟩) 2 pc) ∧ 2 ≤ pc ∧ pc ≤ maxLen ∧
    w.cell? ⟨x, po, none⟩ = some (.int .i64 (ps[k].1 : Int)) ∧ w.cell? ⟨x, po + 1, none⟩ = some (.int .i64 (ps[k].2 : Int))

theorem pairs_open {w : World} {v : Value} {ps : List (Nat × Nat)} (h : IntSS w v (rowsOf ps)) : ∃ ao cap, v = .slice ao ps.length cap ∧ ps.length ≤ cap ∧ cap ≤ maxLen ∧ (ao = none → cap = 0) ∧ ∀ k (h : k < ps.length), PairAt w ao ps k h := by
  obtain ⟨ao, cap, hv, hcap, hmax, hnil, hcell⟩ := h
  rw [rowsOf_length] at hv hcap
  refine ⟨ao, cap, hv, hcap, hmax, hnil, fun k hk => ?_⟩
  obtain ⟨b, o, u, hao, hu, hI⟩ := hcell k (by rw [rowsOf_length]; exact hk)
  rw [rowsOf_get ps k hk] at hI
  obtain ⟨x, po, pc, rfl, g1, g2, d0, d1, _, _⟩ := ints_pair hI
  exact ⟨b, o, x, po, pc, hao, hu, g1, g2, d0, d1⟩

/-- A mask behind a comparator. -/
def stepN (m i k : Nat) : Nat := if m / 2 ^ i % 2 = 1 ∧ m / 2 ^ k % 2 = 0 then m - 2 ^ i + 2 ^ k else m
def bitsN (ps : List (Nat × Nat)) (m : Nat) : Nat := ps.foldl (fun m p => stepN m p.1 p.2) m

/-- Go's 'mask >> i & 1', as the walk spells it. -/
def bitW (m i : Nat) : Int := bits BinOp.and IntKind.i64 ((m : Int) / 2 ^ i) 1
theorem bit_eq (m i : Nat) (hm : m < 256) (hi : i < 8) : bits BinOp.and IntKind.i64 ((m : Int) / 2 ^ i) 1 = ((m / 2 ^ i % 2 : Nat) : Int) := by
  have H : ∀ m : Fin 256, ∀ i : Fin 8, bits BinOp.and IntKind.i64 ((m.val : Int) / 2 ^ i.val) 1 = ((m.val / 2 ^ i.val % 2 : Nat) : Int) := by decide +kernel
  exact H ⟨m, hm⟩ ⟨i, hi⟩

theorem step_swap (m i k : Nat) (hm : m < 256) (hi : i < 8) (hk : k < 8) (h1 : m / 2 ^ i % 2 = 1) (h2 : m / 2 ^ k % 2 = 0) :
    bits BinOp.xor IntKind.i64 (bits BinOp.xor IntKind.i64 (m : Int) (2 ^ i)) (2 ^ k) = (stepN m i k : Int) ∧ 2 ^ i ≤ (m : Int) ∧ (m : Int) - 2 ^ i + 2 ^ k = (stepN m i k : Int) ∧ stepN m i k < 256 := by
  have H : ∀ m : Fin 256, ∀ i k : Fin 8, m.val / 2 ^ i.val % 2 = 1 → m.val / 2 ^ k.val % 2 = 0 →
      bits BinOp.xor IntKind.i64 (bits BinOp.xor IntKind.i64 (m.val : Int) (2 ^ i.val)) (2 ^ k.val) = (stepN m.val i.val k.val : Int) ∧ 2 ^ i.val ≤ (m.val : Int) ∧
      (m.val : Int) - 2 ^ i.val + 2 ^ k.val = (stepN m.val i.val k.val : Int) ∧ stepN m.val i.val k.val < 256 := by decide +kernel
  exact H ⟨m, hm⟩ ⟨i, hi⟩ ⟨k, hk⟩ h1 h2

theorem step_ways (m i k : Nat) (hm : m < 256) (hi : i < 8) (hk : k < 8) :
    (bits BinOp.and IntKind.i64 ((m : Int) / 2 ^ i) 1 = 1 ∧ bits BinOp.and IntKind.i64 ((m : Int) / 2 ^ k) 1 = 0 ∧ m / 2 ^ i % 2 = 1 ∧ m / 2 ^ k % 2 = 0) ∨
    (bits BinOp.and IntKind.i64 ((m : Int) / 2 ^ i) 1 = 1 ∧ bits BinOp.and IntKind.i64 ((m : Int) / 2 ^ k) 1 = 1 ∧ stepN m i k = m) ∨
    (bits BinOp.and IntKind.i64 ((m : Int) / 2 ^ i) 1 = 0 ∧ stepN m i k = m) := by
  rw [bit_eq m i hm hi, bit_eq m k hm hk]
  unfold stepN
  have h1 := Nat.mod_two_eq_zero_or_one (m / 2 ^ i)
  have h2 := Nat.mod_two_eq_zero_or_one (m / 2 ^ k)
  rcases h1 with h1 | h1 <;> rcases h2 with h2 | h2 <;> simp [h1, h2]

theorem stepN_lt (m i k : Nat) (hm : m < 256) (hi : i < 8) (hk : k < 8) : stepN m i k < 256 := by
  by_cases h : m / 2 ^ i % 2 = 1 ∧ m / 2 ^ k % 2 = 0
  · exact (step_swap m i k hm hi hk h.1 h.2).2.2.2
  · unfold stepN; rw [if_neg h]; exact hm

theorem bitsN_snoc (ps : List (Nat × Nat)) (m k : Nat) (h : k < ps.length) : bitsN (ps.take (k + 1)) m = stepN (bitsN (ps.take k) m) ps[k].1 ps[k].2 := by
  unfold bitsN; rw [List.take_succ_eq_append_getElem h, List.foldl_append]; rfl

theorem bitsN_lt {n : Nat} {ps : List (Nat × Nat)} (h : PsOk n ps) (m : Nat) (hm : m < 256) (k : Nat) : k ≤ ps.length → bitsN (ps.take k) m < 256 := by
  induction k with
  | zero => intro _; simpa [bitsN] using hm
  | succ k ih =>
    intro hk
    rw [bitsN_snoc ps m k hk]
    have := h.2.2.2 k hk
    have := h.2.1
    exact stepN_lt _ _ _ (ih (by omega)) (by omega) (by omega)
end Go.Proofs.Ythcnmaapcniehaa
