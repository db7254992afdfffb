/- A network that comes in as an argument, opened: its number of wires, its slice of pairs. -/
import Derived.Test.YthcnmaapcniehaaBase
namespace Go.Proofs.Ythcnmaapcniehaa
open Go.RowKit Go.ChangeShapes Go.WideShapes Go.Joins
set_option linter.unusedVariables false

theorem cellsNet : Try.prog.cellsOf 24 = 2 := by kernel_rfl

set_option maxRecDepth 100000 in
theorem openNet {H : Type} {enc : TypeId × Value → H} {W : World} {r : Reach} {base : Nat} {v : Value} {d : DataW H} {p : List MemPlace}
    (hv : Value.okWide Try.prog W r base 24 v) (h : DataW.Trod enc Try.prog W 0 (fun _ => true) true 24 v d p) :
    ∃ (n : Int) (u : Value) (x : List (List Int)), v = .agg #[.int .i64 n, u] ∧ (Lit.int .i64 n).wf = true ∧ IntSS W u x := by
  obtain ⟨c0, c1, y0, y1, m, rfl, -, -, h0, h1⟩ := open_agg2 Try.underlying24 (by kernel_rfl) cellsNet hv h
  obtain ⟨n, e0, -, wn⟩ := DataW.trod_int Try.underlying3 h0
  simp at e0
  subst e0
  obtain ⟨x, hx⟩ := IntSS.of_cell Try.underlying22 Try.underlying35 Try.underlying3 cellsInts cellsInt h1
  exact ⟨n, c1, x, rfl, wn, hx⟩
end Go.Proofs.Ythcnmaapcniehaa
