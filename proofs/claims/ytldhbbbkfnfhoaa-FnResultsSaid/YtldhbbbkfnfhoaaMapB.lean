/- A map from int to bool that the call itself makes: its look-up, and what it holds said as a list of keys. No program is named. -/
import Derived.Test.YtldhbbbkfnfhoaaSlice
import Derived.Maps.Own
import Derived.Maps.OwnOps
import Derived.Maps.Views
namespace Go.Proofs.Ytldhbbbkfnfhoaa
open Go.RowKit Go.Maps
set_option linter.unusedVariables false

theorem plainElem_bool_inv {H : Type} {P : Program} {e : TypeId} (he : P.underlying e = some .bool) {v : Value} {z : DataW H × List MemPlace} (h : plainElem P e v = some z) : ∃ a, v = .bool a ∧ z = (.lit (.bool a), []) := by
  unfold plainElem at h
  rw [he] at h
  cases v <;> simp at h
  subst h
  exact ⟨_, rfl, rfl⟩

/-- Block b is a map of at most n entries that holds true at the keys of S, and nothing else. -/
def MapB (P : Program) (k e : TypeId) (w : World) (b n : Nat) (S : List Int) : Prop :=
  ∃ D : DataW Unit, w.ownsMap P k (plainElem P e) b n D ∧ IsMap D ∧ ∀ x : Int, D.atKey (.int .i64 x) (.lit (.bool false)) = .lit (.bool (decide (x ∈ S)))

theorem MapB.made (P : Program) (k e : TypeId) (w : World) : MapB P k e (w.alloc (.map #[] 0)) w.heap.size 0 [] :=
  ⟨_, World.ownsMap_made w P k _, isMap_empty, fun x => by simp [DataW.atKey]⟩

theorem wpList_lookupB {P : Program} (w : World) {ops : Array Oper} {rest : List Oper} {o : Oper} {a : Act} {Q : Exit → Act → World → Prop}
    (hg : o.guard = none) (m x : Operand) (t : TypeId) (hop : o.op = Op.lookup t m x false)
    (k e : TypeId) (hk : P.underlying k = some (.int .i64)) (ht : P.underlying t = some (.map k e)) (he : P.underlying e = some .bool) (hz : (zeroValue e).run P w = .ok (.bool false) w) (b n : Nat) (S : List Int)
    (hm : a.eval m = .map (some b)) (hown : MapB P k e w b n S) (key : Int) (hx : a.eval x = .int .i64 key) (hw : In64 key)
    (hK : wpList P ops Q rest (a.put o.dst (.bool (tf (key ∈ S)))) w) :
    wpList P ops Q (o :: rest) a w := by
  refine wpList_plain hg fun K' hK' => ?_
  obtain ⟨D, hD, hmap, hat⟩ := hown
  obtain ⟨v, ps, hrun, hv⟩ := hD.lookup (int_keyed hk) ht hz (plainElem_bool he false) (keyOf_int_mk hk hw)
  obtain ⟨c, rfl, hc⟩ := plainElem_bool_inv he hv
  simp only [Prod.mk.injEq] at hc
  rw [hat key] at hc
  have hcc : c = tf (key ∈ S) := by rw [tf_dec]; simpa using hc.1.symm
  subst hcc
  unfold Oper.wp
  simp [execOp, hop, hm, hx, hrun, Result.andThen]
  exact hK' _ _ hK

theorem wpList_updateB {P : Program} (w : World) {ops : Array Oper} {rest : List Oper} {o : Oper} {a : Act} {Q : Exit → Act → World → Prop}
    (hg : o.guard = none) (m x v : Operand) (t : TypeId) (hop : o.op = Op.mapUpdate t m x v)
    (k e : TypeId) (hk : P.underlying k = some (.int .i64)) (ht : P.underlying t = some (.map k e)) (he : P.underlying e = some .bool) (b n : Nat) (S : List Int)
    (hm : a.eval m = .map (some b)) (hown : MapB P k e w b n S) (hn : n < maxLen) (key : Int) (hx : a.eval x = .int .i64 key) (hw : In64 key) (hv : a.eval v = .bool true)
    (hK : ∀ w', MapB P k e w' b (n + 1) (S ++ [key]) → w.grownBy w' (some b) → wpList P ops Q rest (a.put o.dst undef) w') :
    wpList P ops Q (o :: rest) a w := by
  obtain ⟨D, hD, hmap, hat⟩ := hown
  refine wpList_mapUpdate_own w hg m x v t hop k e (int_keyed hk) ht _ b n D hm hD hn _ _ _ hx hv (keyOf_int_mk hk hw) _ [] (plainElem_bool he true) fun w' h' hg' => hK w' ⟨_, h', hmap.put _ _, fun y => ?_⟩ hg'
  by_cases hy : y = key
  · subst hy
    rw [atKey_put_same hmap (by simp [WideAt.IsKeyLit])]; simp
  · rw [atKey_put_other (by simpa using hy), hat y]; simp [hy]
end Go.Proofs.Ytldhbbbkfnfhoaa
