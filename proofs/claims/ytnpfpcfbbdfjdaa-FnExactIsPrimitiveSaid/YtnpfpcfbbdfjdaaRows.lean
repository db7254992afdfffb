/-
  No cell of these rows narrows 'for every input' (looked for: loops, veiled, ifaces, maps, wideKeys, modest, calm, conditions, laid).
  DERIVED. THE GIVEN ROWS OF THIS SEAT. 9 by the template 'for every input the law returns true; each argument reads behind the call as it read before'; 0 by the template 'total and deterministic' (their statements: YtnpfpcfbbdfjdaaTotals.lean).
  GIVEN WITH THE SEED: the statements are not yours to turn. If you find one false, say at which input.
  Laid BY PROGRAM, IN A SANDBOX (cutbox-rows.mjs): the forced cells as the released guide's own fill.sh prints them over the translation 73e74121e2ca6e76… (all of the seat's roots in one cut). By AI agents, Wed Nov 11 2026. No macro, syntax, notation, axiom, sorry.
-/
import Derived.Test.YtnpfpcfbbdfjdaaChecked
import GoSem.Claim
import GoSem.ClaimJoined
import GoSem.ClaimMapViews
import Derived.JoinedTies
import Derived.KernelRfl
namespace Go.Proofs.Ytnpfpcfbbdfjdaa
/- THE CELL 'sum', in the pinned program and in every row, IS THE sha256 OF THE DUMP (.gsa) THAT YtnpfpcfbbdfjdaaProg.lean LOADS. Nothing in Lean hashes anything: it is a label: what it is worth is what the hold of that sum in a sandbox is worth. -/
noncomputable def Try.pinned : Pinned := { name := "ytnpfpcfbbdfjdaa", sum := "73e74121e2ca6e7623dbecdc332e2cf6505cadab597c9d00ec306a5a0f555f0a", checked := Try.checked }
namespace Rows
def none {H : Type} : Left H := { results := [], args := [] }

/-- 'laws.FnExactApplyNetwork': WHATEVER THE INPUT: true; the input reads as it did. -/
def fnExactApplyNetworkSpec : ChangeSpec := { name := "fnExactApplyNetwork", fn := fun _ => fun
  | [d1, d2] => { results := [.lit (.bool true)], args := [d1, d2] }
  | _ => none }
def fnExactApplyNetworkRow : OpenClaim := { program := "ytnpfpcfbbdfjdaa", sum := "73e74121e2ca6e7623dbecdc332e2cf6505cadab597c9d00ec306a5a0f555f0a", func := "loop.example/g03207/laws.FnExactApplyNetwork", spec := "fnExactApplyNetwork", apart := false }
def FnExactApplyNetworkSaid : Prop := fnExactApplyNetworkRow.holds Try.pinned (OpenSpec.ofChange fnExactApplyNetworkSpec)

/-- ITS FALSE NEIGHBOUR: 'it returns false'. Refute it at one input. -/
def fnExactApplyNetworkWrong : ChangeSpec := { name := "fnExactApplyNetwork", fn := fun _ => fun
  | [d1, d2] => { results := [.lit (.bool false)], args := [d1, d2] }
  | _ => none }
def FnExactApplyNetworkWrongFalsely : Prop := fnExactApplyNetworkRow.holds Try.pinned (OpenSpec.ofChange fnExactApplyNetworkWrong)

/-- 'laws.FnExactSortsOrder': WHATEVER THE INPUT: true; the input reads as it did. -/
def fnExactSortsOrderSpec : ChangeSpec := { name := "fnExactSortsOrder", fn := fun _ => fun
  | [d1, d2] => { results := [.lit (.bool true)], args := [d1, d2] }
  | _ => none }
def fnExactSortsOrderRow : OpenClaim := { program := "ytnpfpcfbbdfjdaa", sum := "73e74121e2ca6e7623dbecdc332e2cf6505cadab597c9d00ec306a5a0f555f0a", func := "loop.example/g03207/laws.FnExactSortsOrder", spec := "fnExactSortsOrder", apart := false }
def FnExactSortsOrderSaid : Prop := fnExactSortsOrderRow.holds Try.pinned (OpenSpec.ofChange fnExactSortsOrderSpec)

/-- ITS FALSE NEIGHBOUR: 'it returns false'. Refute it at one input. -/
def fnExactSortsOrderWrong : ChangeSpec := { name := "fnExactSortsOrder", fn := fun _ => fun
  | [d1, d2] => { results := [.lit (.bool false)], args := [d1, d2] }
  | _ => none }
def FnExactSortsOrderWrongFalsely : Prop := fnExactSortsOrderRow.holds Try.pinned (OpenSpec.ofChange fnExactSortsOrderWrong)

/-- 'laws.FnExactSortsReverse': WHATEVER THE INPUT: true; the input reads as it did. -/
def fnExactSortsReverseSpec : ChangeSpec := { name := "fnExactSortsReverse", fn := fun _ => fun
  | [d] => { results := [.lit (.bool true)], args := [d] }
  | _ => none }
def fnExactSortsReverseRow : OpenClaim := { program := "ytnpfpcfbbdfjdaa", sum := "73e74121e2ca6e7623dbecdc332e2cf6505cadab597c9d00ec306a5a0f555f0a", func := "loop.example/g03207/laws.FnExactSortsReverse", spec := "fnExactSortsReverse", apart := false }
def FnExactSortsReverseSaid : Prop := fnExactSortsReverseRow.holds Try.pinned (OpenSpec.ofChange fnExactSortsReverseSpec)

/-- ITS FALSE NEIGHBOUR: 'it returns false'. Refute it at one input. -/
def fnExactSortsReverseWrong : ChangeSpec := { name := "fnExactSortsReverse", fn := fun _ => fun
  | [d] => { results := [.lit (.bool false)], args := [d] }
  | _ => none }
def FnExactSortsReverseWrongFalsely : Prop := fnExactSortsReverseRow.holds Try.pinned (OpenSpec.ofChange fnExactSortsReverseWrong)

/-- 'laws.FnExactIsStandard': WHATEVER THE INPUT: true; the input reads as it did. -/
def fnExactIsStandardSpec : ChangeSpec := { name := "fnExactIsStandard", fn := fun _ => fun
  | [d] => { results := [.lit (.bool true)], args := [d] }
  | _ => none }
def fnExactIsStandardRow : OpenClaim := { program := "ytnpfpcfbbdfjdaa", sum := "73e74121e2ca6e7623dbecdc332e2cf6505cadab597c9d00ec306a5a0f555f0a", func := "loop.example/g03207/laws.FnExactIsStandard", spec := "fnExactIsStandard", unfollowed := true, recurses := true, apart := false }
def FnExactIsStandardSaid : Prop := fnExactIsStandardRow.holds Try.pinned (OpenSpec.ofChange fnExactIsStandardSpec)

/-- ITS FALSE NEIGHBOUR: 'it returns false'. Refute it at one input. -/
def fnExactIsStandardWrong : ChangeSpec := { name := "fnExactIsStandard", fn := fun _ => fun
  | [d] => { results := [.lit (.bool false)], args := [d] }
  | _ => none }
def FnExactIsStandardWrongFalsely : Prop := fnExactIsStandardRow.holds Try.pinned (OpenSpec.ofChange fnExactIsStandardWrong)

/-- 'laws.FnExactIsPrimitive': WHATEVER THE INPUT: true; the input reads as it did. -/
def fnExactIsPrimitiveSpec : ChangeSpec := { name := "fnExactIsPrimitive", fn := fun _ => fun
  | [d] => { results := [.lit (.bool true)], args := [d] }
  | _ => none }
def fnExactIsPrimitiveRow : OpenClaim := { program := "ytnpfpcfbbdfjdaa", sum := "73e74121e2ca6e7623dbecdc332e2cf6505cadab597c9d00ec306a5a0f555f0a", func := "loop.example/g03207/laws.FnExactIsPrimitive", spec := "fnExactIsPrimitive", unfollowed := true, recurses := true, apart := false }
def FnExactIsPrimitiveSaid : Prop := fnExactIsPrimitiveRow.holds Try.pinned (OpenSpec.ofChange fnExactIsPrimitiveSpec)

/-- ITS FALSE NEIGHBOUR: 'it returns false'. Refute it at one input. -/
def fnExactIsPrimitiveWrong : ChangeSpec := { name := "fnExactIsPrimitive", fn := fun _ => fun
  | [d] => { results := [.lit (.bool false)], args := [d] }
  | _ => none }
def FnExactIsPrimitiveWrongFalsely : Prop := fnExactIsPrimitiveRow.holds Try.pinned (OpenSpec.ofChange fnExactIsPrimitiveWrong)

/-- 'laws.FnExactStandardOf': WHATEVER THE INPUT: true; the input reads as it did. -/
def fnExactStandardOfSpec : ChangeSpec := { name := "fnExactStandardOf", fn := fun _ => fun
  | [d] => { results := [.lit (.bool true)], args := [d] }
  | _ => none }
def fnExactStandardOfRow : OpenClaim := { program := "ytnpfpcfbbdfjdaa", sum := "73e74121e2ca6e7623dbecdc332e2cf6505cadab597c9d00ec306a5a0f555f0a", func := "loop.example/g03207/laws.FnExactStandardOf", spec := "fnExactStandardOf", apart := false }
def FnExactStandardOfSaid : Prop := fnExactStandardOfRow.holds Try.pinned (OpenSpec.ofChange fnExactStandardOfSpec)

/-- ITS FALSE NEIGHBOUR: 'it returns false'. Refute it at one input. -/
def fnExactStandardOfWrong : ChangeSpec := { name := "fnExactStandardOf", fn := fun _ => fun
  | [d] => { results := [.lit (.bool false)], args := [d] }
  | _ => none }
def FnExactStandardOfWrongFalsely : Prop := fnExactStandardOfRow.holds Try.pinned (OpenSpec.ofChange fnExactStandardOfWrong)

/-- 'laws.FnExactPlaceNetwork': WHATEVER THE INPUT: true; the input reads as it did. -/
def fnExactPlaceNetworkSpec : ChangeSpec := { name := "fnExactPlaceNetwork", fn := fun _ => fun
  | [d1, d2, d3] => { results := [.lit (.bool true)], args := [d1, d2, d3] }
  | _ => none }
def fnExactPlaceNetworkRow : OpenClaim := { program := "ytnpfpcfbbdfjdaa", sum := "73e74121e2ca6e7623dbecdc332e2cf6505cadab597c9d00ec306a5a0f555f0a", func := "loop.example/g03207/laws.FnExactPlaceNetwork", spec := "fnExactPlaceNetwork", unfollowed := true, recurses := true, apart := false }
def FnExactPlaceNetworkSaid : Prop := fnExactPlaceNetworkRow.holds Try.pinned (OpenSpec.ofChange fnExactPlaceNetworkSpec)

/-- ITS FALSE NEIGHBOUR: 'it returns false'. Refute it at one input. -/
def fnExactPlaceNetworkWrong : ChangeSpec := { name := "fnExactPlaceNetwork", fn := fun _ => fun
  | [d1, d2, d3] => { results := [.lit (.bool false)], args := [d1, d2, d3] }
  | _ => none }
def FnExactPlaceNetworkWrongFalsely : Prop := fnExactPlaceNetworkRow.holds Try.pinned (OpenSpec.ofChange fnExactPlaceNetworkWrong)

/-- 'laws.FnExactRenameWires': WHATEVER THE INPUT: true; the input reads as it did. -/
def fnExactRenameWiresSpec : ChangeSpec := { name := "fnExactRenameWires", fn := fun _ => fun
  | [d1, d2] => { results := [.lit (.bool true)], args := [d1, d2] }
  | _ => none }
def fnExactRenameWiresRow : OpenClaim := { program := "ytnpfpcfbbdfjdaa", sum := "73e74121e2ca6e7623dbecdc332e2cf6505cadab597c9d00ec306a5a0f555f0a", func := "loop.example/g03207/laws.FnExactRenameWires", spec := "fnExactRenameWires", unfollowed := true, recurses := true, apart := false }
def FnExactRenameWiresSaid : Prop := fnExactRenameWiresRow.holds Try.pinned (OpenSpec.ofChange fnExactRenameWiresSpec)

/-- ITS FALSE NEIGHBOUR: 'it returns false'. Refute it at one input. -/
def fnExactRenameWiresWrong : ChangeSpec := { name := "fnExactRenameWires", fn := fun _ => fun
  | [d1, d2] => { results := [.lit (.bool false)], args := [d1, d2] }
  | _ => none }
def FnExactRenameWiresWrongFalsely : Prop := fnExactRenameWiresRow.holds Try.pinned (OpenSpec.ofChange fnExactRenameWiresWrong)

/-- 'laws.FnExactMirrorNetwork': WHATEVER THE INPUT: true; the input reads as it did. -/
def fnExactMirrorNetworkSpec : ChangeSpec := { name := "fnExactMirrorNetwork", fn := fun _ => fun
  | [d] => { results := [.lit (.bool true)], args := [d] }
  | _ => none }
def fnExactMirrorNetworkRow : OpenClaim := { program := "ytnpfpcfbbdfjdaa", sum := "73e74121e2ca6e7623dbecdc332e2cf6505cadab597c9d00ec306a5a0f555f0a", func := "loop.example/g03207/laws.FnExactMirrorNetwork", spec := "fnExactMirrorNetwork", unfollowed := true, recurses := true, apart := false }
def FnExactMirrorNetworkSaid : Prop := fnExactMirrorNetworkRow.holds Try.pinned (OpenSpec.ofChange fnExactMirrorNetworkSpec)

/-- ITS FALSE NEIGHBOUR: 'it returns false'. Refute it at one input. -/
def fnExactMirrorNetworkWrong : ChangeSpec := { name := "fnExactMirrorNetwork", fn := fun _ => fun
  | [d] => { results := [.lit (.bool false)], args := [d] }
  | _ => none }
def FnExactMirrorNetworkWrongFalsely : Prop := fnExactMirrorNetworkRow.holds Try.pinned (OpenSpec.ofChange fnExactMirrorNetworkWrong)

/- THE SECOND FORM. 'bulk': how many values and letters a reading holds, each counted each time it is reached (what is shared counts as often as it is met; a slice's spare places count too). A statement '..UptoSaid' is the law's where the arguments, and the package variables that the reading takes, are together of bulk at most 1048576: NARROWER than '..Said'. Prove '..Said' where nothing that the law and all that it calls make is longer than what came in: it says more and counts as full. Else prove '..UptoSaid'. A law counts once. -/
mutual
def uptoBulk {H : Type} : DataW H → Nat
  | .lit (.string bytes) => bytes.length + 1
  | .lit _ => 1
  | .nil => 1
  | .ptr d => uptoBulk d + 1
  | .slice elems spare => uptoBulkAll elems + uptoBulkAll spare + 1
  | .agg parts => uptoBulkAll parts + 1
  | .iface _ d => uptoBulk d + 1
  | .map entries => uptoBulkEntries entries + 1
  | .held _ => 1
def uptoBulkAll {H : Type} : List (DataW H) → Nat
  | [] => 0
  | d :: r => uptoBulk d + uptoBulkAll r
def uptoBulkEntries {H : Type} : List (Lit × DataW H) → Nat
  | [] => 0
  | x :: r => uptoBulkEntry x + uptoBulkEntries r
def uptoBulkEntry {H : Type} : Lit × DataW H → Nat
  | (.string bytes, d) => bytes.length + uptoBulk d + 1
  | (_, d) => uptoBulk d + 1
 end
def uptoSmall : (H : Type) → List (DataW H) → Bool := fun _ ds => decide (uptoBulkAll ds ≤ 1048576)
def OpenSpec.upto (s : _root_.Go.ChangeSpec) : _root_.Go.OpenSpec := { _root_.Go.OpenSpec.ofChange s with cond := some uptoSmall }

/-- 'laws.FnExactApplyNetwork', WHERE WHAT IT READS IS OF BULK AT MOST 1048576: true; the input reads as it did. -/
def fnExactApplyNetworkUptoRow : OpenClaim := { program := "ytnpfpcfbbdfjdaa", sum := "73e74121e2ca6e7623dbecdc332e2cf6505cadab597c9d00ec306a5a0f555f0a", func := "loop.example/g03207/laws.FnExactApplyNetwork", spec := "fnExactApplyNetwork", apart := false, narrowed := true }
def FnExactApplyNetworkUptoSaid : Prop := fnExactApplyNetworkUptoRow.holds Try.pinned (OpenSpec.upto fnExactApplyNetworkSpec)

/-- 'laws.FnExactSortsOrder', WHERE WHAT IT READS IS OF BULK AT MOST 1048576: true; the input reads as it did. -/
def fnExactSortsOrderUptoRow : OpenClaim := { program := "ytnpfpcfbbdfjdaa", sum := "73e74121e2ca6e7623dbecdc332e2cf6505cadab597c9d00ec306a5a0f555f0a", func := "loop.example/g03207/laws.FnExactSortsOrder", spec := "fnExactSortsOrder", apart := false, narrowed := true }
def FnExactSortsOrderUptoSaid : Prop := fnExactSortsOrderUptoRow.holds Try.pinned (OpenSpec.upto fnExactSortsOrderSpec)

/-- 'laws.FnExactSortsReverse', WHERE WHAT IT READS IS OF BULK AT MOST 1048576: true; the input reads as it did. -/
def fnExactSortsReverseUptoRow : OpenClaim := { program := "ytnpfpcfbbdfjdaa", sum := "73e74121e2ca6e7623dbecdc332e2cf6505cadab597c9d00ec306a5a0f555f0a", func := "loop.example/g03207/laws.FnExactSortsReverse", spec := "fnExactSortsReverse", apart := false, narrowed := true }
def FnExactSortsReverseUptoSaid : Prop := fnExactSortsReverseUptoRow.holds Try.pinned (OpenSpec.upto fnExactSortsReverseSpec)

/-- 'laws.FnExactIsStandard', WHERE WHAT IT READS IS OF BULK AT MOST 1048576: true; the input reads as it did. -/
def fnExactIsStandardUptoRow : OpenClaim := { program := "ytnpfpcfbbdfjdaa", sum := "73e74121e2ca6e7623dbecdc332e2cf6505cadab597c9d00ec306a5a0f555f0a", func := "loop.example/g03207/laws.FnExactIsStandard", spec := "fnExactIsStandard", unfollowed := true, recurses := true, apart := false, narrowed := true }
def FnExactIsStandardUptoSaid : Prop := fnExactIsStandardUptoRow.holds Try.pinned (OpenSpec.upto fnExactIsStandardSpec)

/-- 'laws.FnExactIsPrimitive', WHERE WHAT IT READS IS OF BULK AT MOST 1048576: true; the input reads as it did. -/
def fnExactIsPrimitiveUptoRow : OpenClaim := { program := "ytnpfpcfbbdfjdaa", sum := "73e74121e2ca6e7623dbecdc332e2cf6505cadab597c9d00ec306a5a0f555f0a", func := "loop.example/g03207/laws.FnExactIsPrimitive", spec := "fnExactIsPrimitive", unfollowed := true, recurses := true, apart := false, narrowed := true }
def FnExactIsPrimitiveUptoSaid : Prop := fnExactIsPrimitiveUptoRow.holds Try.pinned (OpenSpec.upto fnExactIsPrimitiveSpec)

/-- 'laws.FnExactStandardOf', WHERE WHAT IT READS IS OF BULK AT MOST 1048576: true; the input reads as it did. -/
def fnExactStandardOfUptoRow : OpenClaim := { program := "ytnpfpcfbbdfjdaa", sum := "73e74121e2ca6e7623dbecdc332e2cf6505cadab597c9d00ec306a5a0f555f0a", func := "loop.example/g03207/laws.FnExactStandardOf", spec := "fnExactStandardOf", apart := false, narrowed := true }
def FnExactStandardOfUptoSaid : Prop := fnExactStandardOfUptoRow.holds Try.pinned (OpenSpec.upto fnExactStandardOfSpec)

/-- 'laws.FnExactPlaceNetwork', WHERE WHAT IT READS IS OF BULK AT MOST 1048576: true; the input reads as it did. -/
def fnExactPlaceNetworkUptoRow : OpenClaim := { program := "ytnpfpcfbbdfjdaa", sum := "73e74121e2ca6e7623dbecdc332e2cf6505cadab597c9d00ec306a5a0f555f0a", func := "loop.example/g03207/laws.FnExactPlaceNetwork", spec := "fnExactPlaceNetwork", unfollowed := true, recurses := true, apart := false, narrowed := true }
def FnExactPlaceNetworkUptoSaid : Prop := fnExactPlaceNetworkUptoRow.holds Try.pinned (OpenSpec.upto fnExactPlaceNetworkSpec)

/-- 'laws.FnExactRenameWires', WHERE WHAT IT READS IS OF BULK AT MOST 1048576: true; the input reads as it did. -/
def fnExactRenameWiresUptoRow : OpenClaim := { program := "ytnpfpcfbbdfjdaa", sum := "73e74121e2ca6e7623dbecdc332e2cf6505cadab597c9d00ec306a5a0f555f0a", func := "loop.example/g03207/laws.FnExactRenameWires", spec := "fnExactRenameWires", unfollowed := true, recurses := true, apart := false, narrowed := true }
def FnExactRenameWiresUptoSaid : Prop := fnExactRenameWiresUptoRow.holds Try.pinned (OpenSpec.upto fnExactRenameWiresSpec)

/-- 'laws.FnExactMirrorNetwork', WHERE WHAT IT READS IS OF BULK AT MOST 1048576: true; the input reads as it did. -/
def fnExactMirrorNetworkUptoRow : OpenClaim := { program := "ytnpfpcfbbdfjdaa", sum := "73e74121e2ca6e7623dbecdc332e2cf6505cadab597c9d00ec306a5a0f555f0a", func := "loop.example/g03207/laws.FnExactMirrorNetwork", spec := "fnExactMirrorNetwork", unfollowed := true, recurses := true, apart := false, narrowed := true }
def FnExactMirrorNetworkUptoSaid : Prop := fnExactMirrorNetworkUptoRow.holds Try.pinned (OpenSpec.upto fnExactMirrorNetworkSpec)

end Rows
end Go.Proofs.Ytnpfpcfbbdfjdaa
