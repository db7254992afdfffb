/-
  No cell of these rows narrows 'for every input' (looked for: loops, veiled, ifaces, maps, wideKeys, modest, calm, conditions, laid).
  DERIVED. THE GIVEN ROWS OF THIS SEAT. 8 by the template 'for every input the law returns true; each argument reads behind the call as it read before'; 0 by the template 'total and deterministic' (their statements: YtfcogiacmhffjaaTotals.lean).
  GIVEN WITH THE SEED: the statements are not yours to turn. If you find one false, say at which input.
  Laid BY PROGRAM, IN A SANDBOX (cutbox-rows.mjs): the forced cells as the released guide's own fill.sh prints them over the translation a450fae68f34f1e8… (all of the seat's roots in one cut). By AI agents, Wed Nov 11 2026. No macro, syntax, notation, axiom, sorry.
-/
import Derived.Test.YtfcogiacmhffjaaChecked
import GoSem.Claim
import GoSem.ClaimJoined
import GoSem.ClaimMapViews
import Derived.JoinedTies
import Derived.KernelRfl
namespace Go.Proofs.Ytfcogiacmhffjaa
/- THE CELL 'sum', in the pinned program and in every row, IS THE sha256 OF THE DUMP (.gsa) THAT YtfcogiacmhffjaaProg.lean LOADS. Nothing in Lean hashes anything: it is a label: what it is worth is what the hold of that sum in a sandbox is worth. -/
noncomputable def Try.pinned : Pinned := { name := "ytfcogiacmhffjaa", sum := "a450fae68f34f1e8d662f90954825fccf19398d37010e4f211e7f590c9bac1f2", checked := Try.checked }
namespace Rows
def none {H : Type} : Left H := { results := [], args := [] }

/-- 'laws.FnExactApplyBits': WHATEVER THE INPUT: true; the input reads as it did. -/
def fnExactApplyBitsSpec : ChangeSpec := { name := "fnExactApplyBits", fn := fun _ => fun
  | [d1, d2] => { results := [.lit (.bool true)], args := [d1, d2] }
  | _ => none }
def fnExactApplyBitsRow : OpenClaim := { program := "ytfcogiacmhffjaa", sum := "a450fae68f34f1e8d662f90954825fccf19398d37010e4f211e7f590c9bac1f2", func := "loop.example/g03207/laws.FnExactApplyBits", spec := "fnExactApplyBits", apart := false }
def FnExactApplyBitsSaid : Prop := fnExactApplyBitsRow.holds Try.pinned (OpenSpec.ofChange fnExactApplyBitsSpec)

/-- ITS FALSE NEIGHBOUR: 'it returns false'. Refute it at one input. -/
def fnExactApplyBitsWrong : ChangeSpec := { name := "fnExactApplyBits", fn := fun _ => fun
  | [d1, d2] => { results := [.lit (.bool false)], args := [d1, d2] }
  | _ => none }
def FnExactApplyBitsWrongFalsely : Prop := fnExactApplyBitsRow.holds Try.pinned (OpenSpec.ofChange fnExactApplyBitsWrong)

/-- 'laws.FnExactClustersOf': WHATEVER THE INPUT: true; the input reads as it did. -/
def fnExactClustersOfSpec : ChangeSpec := { name := "fnExactClustersOf", fn := fun _ => fun
  | [d1, d2] => { results := [.lit (.bool true)], args := [d1, d2] }
  | _ => none }
def fnExactClustersOfRow : OpenClaim := { program := "ytfcogiacmhffjaa", sum := "a450fae68f34f1e8d662f90954825fccf19398d37010e4f211e7f590c9bac1f2", func := "loop.example/g03207/laws.FnExactClustersOf", spec := "fnExactClustersOf", apart := false }
def FnExactClustersOfSaid : Prop := fnExactClustersOfRow.holds Try.pinned (OpenSpec.ofChange fnExactClustersOfSpec)

/-- ITS FALSE NEIGHBOUR: 'it returns false'. Refute it at one input. -/
def fnExactClustersOfWrong : ChangeSpec := { name := "fnExactClustersOf", fn := fun _ => fun
  | [d1, d2] => { results := [.lit (.bool false)], args := [d1, d2] }
  | _ => none }
def FnExactClustersOfWrongFalsely : Prop := fnExactClustersOfRow.holds Try.pinned (OpenSpec.ofChange fnExactClustersOfWrong)

/-- 'laws.FnExactLevelsOf': WHATEVER THE INPUT: true; the input reads as it did. -/
def fnExactLevelsOfSpec : ChangeSpec := { name := "fnExactLevelsOf", fn := fun _ => fun
  | [d] => { results := [.lit (.bool true)], args := [d] }
  | _ => none }
def fnExactLevelsOfRow : OpenClaim := { program := "ytfcogiacmhffjaa", sum := "a450fae68f34f1e8d662f90954825fccf19398d37010e4f211e7f590c9bac1f2", func := "loop.example/g03207/laws.FnExactLevelsOf", spec := "fnExactLevelsOf", apart := false }
def FnExactLevelsOfSaid : Prop := fnExactLevelsOfRow.holds Try.pinned (OpenSpec.ofChange fnExactLevelsOfSpec)

/-- ITS FALSE NEIGHBOUR: 'it returns false'. Refute it at one input. -/
def fnExactLevelsOfWrong : ChangeSpec := { name := "fnExactLevelsOf", fn := fun _ => fun
  | [d] => { results := [.lit (.bool false)], args := [d] }
  | _ => none }
def FnExactLevelsOfWrongFalsely : Prop := fnExactLevelsOfRow.holds Try.pinned (OpenSpec.ofChange fnExactLevelsOfWrong)

/-- 'laws.FnExactDepthOf': WHATEVER THE INPUT: true; the input reads as it did. -/
def fnExactDepthOfSpec : ChangeSpec := { name := "fnExactDepthOf", fn := fun _ => fun
  | [d] => { results := [.lit (.bool true)], args := [d] }
  | _ => none }
def fnExactDepthOfRow : OpenClaim := { program := "ytfcogiacmhffjaa", sum := "a450fae68f34f1e8d662f90954825fccf19398d37010e4f211e7f590c9bac1f2", func := "loop.example/g03207/laws.FnExactDepthOf", spec := "fnExactDepthOf", apart := false }
def FnExactDepthOfSaid : Prop := fnExactDepthOfRow.holds Try.pinned (OpenSpec.ofChange fnExactDepthOfSpec)

/-- ITS FALSE NEIGHBOUR: 'it returns false'. Refute it at one input. -/
def fnExactDepthOfWrong : ChangeSpec := { name := "fnExactDepthOf", fn := fun _ => fun
  | [d] => { results := [.lit (.bool false)], args := [d] }
  | _ => none }
def FnExactDepthOfWrongFalsely : Prop := fnExactDepthOfRow.holds Try.pinned (OpenSpec.ofChange fnExactDepthOfWrong)

/-- 'laws.FnExactCountUnsorted': WHATEVER THE INPUT: true; the input reads as it did. -/
def fnExactCountUnsortedSpec : ChangeSpec := { name := "fnExactCountUnsorted", fn := fun _ => fun
  | [d] => { results := [.lit (.bool true)], args := [d] }
  | _ => none }
def fnExactCountUnsortedRow : OpenClaim := { program := "ytfcogiacmhffjaa", sum := "a450fae68f34f1e8d662f90954825fccf19398d37010e4f211e7f590c9bac1f2", func := "loop.example/g03207/laws.FnExactCountUnsorted", spec := "fnExactCountUnsorted", apart := false }
def FnExactCountUnsortedSaid : Prop := fnExactCountUnsortedRow.holds Try.pinned (OpenSpec.ofChange fnExactCountUnsortedSpec)

/-- ITS FALSE NEIGHBOUR: 'it returns false'. Refute it at one input. -/
def fnExactCountUnsortedWrong : ChangeSpec := { name := "fnExactCountUnsorted", fn := fun _ => fun
  | [d] => { results := [.lit (.bool false)], args := [d] }
  | _ => none }
def FnExactCountUnsortedWrongFalsely : Prop := fnExactCountUnsortedRow.holds Try.pinned (OpenSpec.ofChange fnExactCountUnsortedWrong)

/-- 'laws.FnExactFirstUnsorted': WHATEVER THE INPUT: true; the input reads as it did. -/
def fnExactFirstUnsortedSpec : ChangeSpec := { name := "fnExactFirstUnsorted", fn := fun _ => fun
  | [d] => { results := [.lit (.bool true)], args := [d] }
  | _ => none }
def fnExactFirstUnsortedRow : OpenClaim := { program := "ytfcogiacmhffjaa", sum := "a450fae68f34f1e8d662f90954825fccf19398d37010e4f211e7f590c9bac1f2", func := "loop.example/g03207/laws.FnExactFirstUnsorted", spec := "fnExactFirstUnsorted", apart := false }
def FnExactFirstUnsortedSaid : Prop := fnExactFirstUnsortedRow.holds Try.pinned (OpenSpec.ofChange fnExactFirstUnsortedSpec)

/-- ITS FALSE NEIGHBOUR: 'it returns false'. Refute it at one input. -/
def fnExactFirstUnsortedWrong : ChangeSpec := { name := "fnExactFirstUnsorted", fn := fun _ => fun
  | [d] => { results := [.lit (.bool false)], args := [d] }
  | _ => none }
def FnExactFirstUnsortedWrongFalsely : Prop := fnExactFirstUnsortedRow.holds Try.pinned (OpenSpec.ofChange fnExactFirstUnsortedWrong)

/-- 'laws.FnExactIsSorting': WHATEVER THE INPUT: true; the input reads as it did. -/
def fnExactIsSortingSpec : ChangeSpec := { name := "fnExactIsSorting", fn := fun _ => fun
  | [d] => { results := [.lit (.bool true)], args := [d] }
  | _ => none }
def fnExactIsSortingRow : OpenClaim := { program := "ytfcogiacmhffjaa", sum := "a450fae68f34f1e8d662f90954825fccf19398d37010e4f211e7f590c9bac1f2", func := "loop.example/g03207/laws.FnExactIsSorting", spec := "fnExactIsSorting", apart := false }
def FnExactIsSortingSaid : Prop := fnExactIsSortingRow.holds Try.pinned (OpenSpec.ofChange fnExactIsSortingSpec)

/-- ITS FALSE NEIGHBOUR: 'it returns false'. Refute it at one input. -/
def fnExactIsSortingWrong : ChangeSpec := { name := "fnExactIsSorting", fn := fun _ => fun
  | [d] => { results := [.lit (.bool false)], args := [d] }
  | _ => none }
def FnExactIsSortingWrongFalsely : Prop := fnExactIsSortingRow.holds Try.pinned (OpenSpec.ofChange fnExactIsSortingWrong)

/-- 'laws.FnExactFailingList': WHATEVER THE INPUT: true; the input reads as it did. -/
def fnExactFailingListSpec : ChangeSpec := { name := "fnExactFailingList", fn := fun _ => fun
  | [d] => { results := [.lit (.bool true)], args := [d] }
  | _ => none }
def fnExactFailingListRow : OpenClaim := { program := "ytfcogiacmhffjaa", sum := "a450fae68f34f1e8d662f90954825fccf19398d37010e4f211e7f590c9bac1f2", func := "loop.example/g03207/laws.FnExactFailingList", spec := "fnExactFailingList", apart := false }
def FnExactFailingListSaid : Prop := fnExactFailingListRow.holds Try.pinned (OpenSpec.ofChange fnExactFailingListSpec)

/-- ITS FALSE NEIGHBOUR: 'it returns false'. Refute it at one input. -/
def fnExactFailingListWrong : ChangeSpec := { name := "fnExactFailingList", fn := fun _ => fun
  | [d] => { results := [.lit (.bool false)], args := [d] }
  | _ => none }
def FnExactFailingListWrongFalsely : Prop := fnExactFailingListRow.holds Try.pinned (OpenSpec.ofChange fnExactFailingListWrong)

/- THE SECOND FORM. 'bulk': how many values and letters a reading holds, each counted each time it is reached (what is shared counts as often as it is met; a slice's spare places count too). A statement '..UptoSaid' is the law's where the arguments, and the package variables that the reading takes, are together of bulk at most 1048576: NARROWER than '..Said'. Prove '..Said' where nothing that the law and all that it calls make is longer than what came in: it says more and counts as full. Else prove '..UptoSaid'. A law counts once. -/
mutual
def uptoBulk {H : Type} : DataW H → Nat
  | .lit (.string bytes) => bytes.length + 1
  | .lit _ => 1
  | .nil => 1
  | .ptr d => uptoBulk d + 1
  | .slice elems spare => uptoBulkAll elems + uptoBulkAll spare + 1
  | .agg parts => uptoBulkAll parts + 1
  | .iface _ d => uptoBulk d + 1
  | .map entries => uptoBulkEntries entries + 1
  | .held _ => 1
def uptoBulkAll {H : Type} : List (DataW H) → Nat
  | [] => 0
  | d :: r => uptoBulk d + uptoBulkAll r
def uptoBulkEntries {H : Type} : List (Lit × DataW H) → Nat
  | [] => 0
  | x :: r => uptoBulkEntry x + uptoBulkEntries r
def uptoBulkEntry {H : Type} : Lit × DataW H → Nat
  | (.string bytes, d) => bytes.length + uptoBulk d + 1
  | (_, d) => uptoBulk d + 1
 end
def uptoSmall : (H : Type) → List (DataW H) → Bool := fun _ ds => decide (uptoBulkAll ds ≤ 1048576)
def OpenSpec.upto (s : _root_.Go.ChangeSpec) : _root_.Go.OpenSpec := { _root_.Go.OpenSpec.ofChange s with cond := some uptoSmall }

/-- 'laws.FnExactApplyBits', WHERE WHAT IT READS IS OF BULK AT MOST 1048576: true; the input reads as it did. -/
def fnExactApplyBitsUptoRow : OpenClaim := { program := "ytfcogiacmhffjaa", sum := "a450fae68f34f1e8d662f90954825fccf19398d37010e4f211e7f590c9bac1f2", func := "loop.example/g03207/laws.FnExactApplyBits", spec := "fnExactApplyBits", apart := false, narrowed := true }
def FnExactApplyBitsUptoSaid : Prop := fnExactApplyBitsUptoRow.holds Try.pinned (OpenSpec.upto fnExactApplyBitsSpec)

/-- 'laws.FnExactClustersOf', WHERE WHAT IT READS IS OF BULK AT MOST 1048576: true; the input reads as it did. -/
def fnExactClustersOfUptoRow : OpenClaim := { program := "ytfcogiacmhffjaa", sum := "a450fae68f34f1e8d662f90954825fccf19398d37010e4f211e7f590c9bac1f2", func := "loop.example/g03207/laws.FnExactClustersOf", spec := "fnExactClustersOf", apart := false, narrowed := true }
def FnExactClustersOfUptoSaid : Prop := fnExactClustersOfUptoRow.holds Try.pinned (OpenSpec.upto fnExactClustersOfSpec)

/-- 'laws.FnExactLevelsOf', WHERE WHAT IT READS IS OF BULK AT MOST 1048576: true; the input reads as it did. -/
def fnExactLevelsOfUptoRow : OpenClaim := { program := "ytfcogiacmhffjaa", sum := "a450fae68f34f1e8d662f90954825fccf19398d37010e4f211e7f590c9bac1f2", func := "loop.example/g03207/laws.FnExactLevelsOf", spec := "fnExactLevelsOf", apart := false, narrowed := true }
def FnExactLevelsOfUptoSaid : Prop := fnExactLevelsOfUptoRow.holds Try.pinned (OpenSpec.upto fnExactLevelsOfSpec)

/-- 'laws.FnExactDepthOf', WHERE WHAT IT READS IS OF BULK AT MOST 1048576: true; the input reads as it did. -/
def fnExactDepthOfUptoRow : OpenClaim := { program := "ytfcogiacmhffjaa", sum := "a450fae68f34f1e8d662f90954825fccf19398d37010e4f211e7f590c9bac1f2", func := "loop.example/g03207/laws.FnExactDepthOf", spec := "fnExactDepthOf", apart := false, narrowed := true }
def FnExactDepthOfUptoSaid : Prop := fnExactDepthOfUptoRow.holds Try.pinned (OpenSpec.upto fnExactDepthOfSpec)

/-- 'laws.FnExactCountUnsorted', WHERE WHAT IT READS IS OF BULK AT MOST 1048576: true; the input reads as it did. -/
def fnExactCountUnsortedUptoRow : OpenClaim := { program := "ytfcogiacmhffjaa", sum := "a450fae68f34f1e8d662f90954825fccf19398d37010e4f211e7f590c9bac1f2", func := "loop.example/g03207/laws.FnExactCountUnsorted", spec := "fnExactCountUnsorted", apart := false, narrowed := true }
def FnExactCountUnsortedUptoSaid : Prop := fnExactCountUnsortedUptoRow.holds Try.pinned (OpenSpec.upto fnExactCountUnsortedSpec)

/-- 'laws.FnExactFirstUnsorted', WHERE WHAT IT READS IS OF BULK AT MOST 1048576: true; the input reads as it did. -/
def fnExactFirstUnsortedUptoRow : OpenClaim := { program := "ytfcogiacmhffjaa", sum := "a450fae68f34f1e8d662f90954825fccf19398d37010e4f211e7f590c9bac1f2", func := "loop.example/g03207/laws.FnExactFirstUnsorted", spec := "fnExactFirstUnsorted", apart := false, narrowed := true }
def FnExactFirstUnsortedUptoSaid : Prop := fnExactFirstUnsortedUptoRow.holds Try.pinned (OpenSpec.upto fnExactFirstUnsortedSpec)

/-- 'laws.FnExactIsSorting', WHERE WHAT IT READS IS OF BULK AT MOST 1048576: true; the input reads as it did. -/
def fnExactIsSortingUptoRow : OpenClaim := { program := "ytfcogiacmhffjaa", sum := "a450fae68f34f1e8d662f90954825fccf19398d37010e4f211e7f590c9bac1f2", func := "loop.example/g03207/laws.FnExactIsSorting", spec := "fnExactIsSorting", apart := false, narrowed := true }
def FnExactIsSortingUptoSaid : Prop := fnExactIsSortingUptoRow.holds Try.pinned (OpenSpec.upto fnExactIsSortingSpec)

/-- 'laws.FnExactFailingList', WHERE WHAT IT READS IS OF BULK AT MOST 1048576: true; the input reads as it did. -/
def fnExactFailingListUptoRow : OpenClaim := { program := "ytfcogiacmhffjaa", sum := "a450fae68f34f1e8d662f90954825fccf19398d37010e4f211e7f590c9bac1f2", func := "loop.example/g03207/laws.FnExactFailingList", spec := "fnExactFailingList", apart := false, narrowed := true }
def FnExactFailingListUptoSaid : Prop := fnExactFailingListUptoRow.holds Try.pinned (OpenSpec.upto fnExactFailingListSpec)

end Rows
end Go.Proofs.Ytfcogiacmhffjaa
