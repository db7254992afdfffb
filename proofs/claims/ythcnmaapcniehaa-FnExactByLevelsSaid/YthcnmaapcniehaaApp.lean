/- append of one element to a row of the call's own, with the place of the new row. No program is named. -/
import Derived.Test.YthcnmaapcniehaaMem
import Derived.Maps.AppendAt
namespace Go.Proofs.Ythcnmaapcniehaa
open Go.RowKit
set_option linter.unusedVariables false

theorem wpList_append1_at {P : Program} (w : World) {ops : Array Oper} {rest : List Oper} {o : Oper} {a : Act} {Q : Exit → Act → World → Prop} (hgd : o.guard = none) (s x : Operand) (t : TypeId)
    (ho : o.op = .call { callee := .builtin .append, args := #[s, x], argTypes := #[t, t] })
    (e : TypeId) (z : Value) (bytes : Nat) (ht : P.underlying t = some (.slice e)) (hinfo : (P.info? e).map (fun i => (i.zero, i.size, i.bytes)) = some (some z, 1, bytes)) (hby : bytes ≤ 24) (hz1 : z.cells = #[z])
    (lo hi : Nat) (v : Value) (us : List Value) (hs : a.eval s = v) (hown : Own e w lo hi v us)
    (ad : Addr) (c : Nat) (u : Value) (hx : a.eval x = .slice (some ad) 1 c) (hcell : w.cell? ad = some u) (h1 : u.oneCell' = true)
    (hlen : us.length < 4294967296) (hlo : lo ≤ w.heap.size)
    (h : ∀ v' w', Own e w' lo w'.heap.size v' (us ++ [u]) → w.grownBy w' v.ownBlock → (v'.ownBlock = v.ownBlock ∨ v'.ownBlock = some w.heap.size) → wpList P ops Q rest (a.put o.dst v') w') : wpList P ops Q (o :: rest) a w := by
  obtain ⟨i, hi', hz0, hz2, hz3⟩ := info_parts hinfo
  refine wpList_append_own_at w hgd s x t ho lo e i z 1 bytes ht hi' hz0 hz2 hz3 (by rw [hz1]; rfl) (by decide) v us.length us hs hown.1 ad 1 c [u] hx rfl ?_ ?_ ?_ ?_ hlo ?_
  · intro j q hj
    match j, hj with
    | 0, hj => simp at hj; subst hj; simpa [Addr.add] using hcell
  · intro q hq; simp at hq; subst hq; exact h1
  · unfold maxLen; omega
  · have : (us.length + 1) * bytes ≤ (us.length + 1) * 24 := Nat.mul_le_mul_left _ hby
    omega
  · intro v' w' hown' hg _ hat
    exact h v' w' ⟨by simpa using hown', fun g hg' => (hown'.lt g hg').2⟩ hg hat
end Go.Proofs.Ythcnmaapcniehaa
