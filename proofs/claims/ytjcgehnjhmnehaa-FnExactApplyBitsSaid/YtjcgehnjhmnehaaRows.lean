/-
  No cell of these rows narrows 'for every input' (looked for: loops, veiled, ifaces, maps, wideKeys, modest, calm, conditions, laid).
  DERIVED. THE GIVEN ROWS OF THIS SEAT. 35 by the template 'for every input the law returns true; each argument reads behind the call as it read before'; 0 by the template 'total and deterministic' (their statements: YtjcgehnjhmnehaaTotals.lean).
  GIVEN WITH THE SEED: the statements are not yours to turn. If you find one false, say at which input.
  Laid BY PROGRAM, IN A SANDBOX (cutbox-rows.mjs): the forced cells as the released guide's own fill.sh prints them over the translation b858cd0faffff97b… (all of the seat's roots in one cut). By AI agents, Wed Nov 11 2026. No macro, syntax, notation, axiom, sorry.
-/
import Derived.Test.YtjcgehnjhmnehaaChecked
import GoSem.Claim
import GoSem.ClaimJoined
import GoSem.ClaimMapViews
import Derived.JoinedTies
import Derived.KernelRfl
namespace Go.Proofs.Ytjcgehnjhmnehaa
/- THE CELL 'sum', in the pinned program and in every row, IS THE sha256 OF THE DUMP (.gsa) THAT YtjcgehnjhmnehaaProg.lean LOADS. Nothing in Lean hashes anything: it is a label: what it is worth is what the hold of that sum in a sandbox is worth. -/
noncomputable def Try.pinned : Pinned := { name := "ytjcgehnjhmnehaa", sum := "b858cd0faffff97b943ad3438ce27c27ed052508f5e7a50e890ee383027226ce", checked := Try.checked }
namespace Rows
def none {H : Type} : Left H := { results := [], args := [] }

/-- 'laws.FnTop': WHATEVER THE INPUT: true; the input reads as it did. -/
def fnTopSpec : ChangeSpec := { name := "fnTop", fn := fun _ => fun
  | [d] => { results := [.lit (.bool true)], args := [d] }
  | _ => none }
def fnTopRow : OpenClaim := { program := "ytjcgehnjhmnehaa", sum := "b858cd0faffff97b943ad3438ce27c27ed052508f5e7a50e890ee383027226ce", func := "loop.example/g03207/laws.FnTop", spec := "fnTop", unfollowed := true, recurses := true, apart := false }
def FnTopSaid : Prop := fnTopRow.holds Try.pinned (OpenSpec.ofChange fnTopSpec)

/-- ITS FALSE NEIGHBOUR: 'it returns false'. Refute it at one input. -/
def fnTopWrong : ChangeSpec := { name := "fnTop", fn := fun _ => fun
  | [d] => { results := [.lit (.bool false)], args := [d] }
  | _ => none }
def FnTopWrongFalsely : Prop := fnTopRow.holds Try.pinned (OpenSpec.ofChange fnTopWrong)

/-- 'laws.FnExactClustersOf': WHATEVER THE INPUT: true; the input reads as it did. -/
def fnExactClustersOfSpec : ChangeSpec := { name := "fnExactClustersOf", fn := fun _ => fun
  | [d1, d2] => { results := [.lit (.bool true)], args := [d1, d2] }
  | _ => none }
def fnExactClustersOfRow : OpenClaim := { program := "ytjcgehnjhmnehaa", sum := "b858cd0faffff97b943ad3438ce27c27ed052508f5e7a50e890ee383027226ce", func := "loop.example/g03207/laws.FnExactClustersOf", spec := "fnExactClustersOf", apart := false }
def FnExactClustersOfSaid : Prop := fnExactClustersOfRow.holds Try.pinned (OpenSpec.ofChange fnExactClustersOfSpec)

/-- ITS FALSE NEIGHBOUR: 'it returns false'. Refute it at one input. -/
def fnExactClustersOfWrong : ChangeSpec := { name := "fnExactClustersOf", fn := fun _ => fun
  | [d1, d2] => { results := [.lit (.bool false)], args := [d1, d2] }
  | _ => none }
def FnExactClustersOfWrongFalsely : Prop := fnExactClustersOfRow.holds Try.pinned (OpenSpec.ofChange fnExactClustersOfWrong)

/-- 'laws.FnExactIsStandard': WHATEVER THE INPUT: true; the input reads as it did. -/
def fnExactIsStandardSpec : ChangeSpec := { name := "fnExactIsStandard", fn := fun _ => fun
  | [d] => { results := [.lit (.bool true)], args := [d] }
  | _ => none }
def fnExactIsStandardRow : OpenClaim := { program := "ytjcgehnjhmnehaa", sum := "b858cd0faffff97b943ad3438ce27c27ed052508f5e7a50e890ee383027226ce", func := "loop.example/g03207/laws.FnExactIsStandard", spec := "fnExactIsStandard", unfollowed := true, recurses := true, apart := false }
def FnExactIsStandardSaid : Prop := fnExactIsStandardRow.holds Try.pinned (OpenSpec.ofChange fnExactIsStandardSpec)

/-- ITS FALSE NEIGHBOUR: 'it returns false'. Refute it at one input. -/
def fnExactIsStandardWrong : ChangeSpec := { name := "fnExactIsStandard", fn := fun _ => fun
  | [d] => { results := [.lit (.bool false)], args := [d] }
  | _ => none }
def FnExactIsStandardWrongFalsely : Prop := fnExactIsStandardRow.holds Try.pinned (OpenSpec.ofChange fnExactIsStandardWrong)

/-- 'laws.FnExactApplyBits': WHATEVER THE INPUT: true; the input reads as it did. -/
def fnExactApplyBitsSpec : ChangeSpec := { name := "fnExactApplyBits", fn := fun _ => fun
  | [d1, d2] => { results := [.lit (.bool true)], args := [d1, d2] }
  | _ => none }
def fnExactApplyBitsRow : OpenClaim := { program := "ytjcgehnjhmnehaa", sum := "b858cd0faffff97b943ad3438ce27c27ed052508f5e7a50e890ee383027226ce", func := "loop.example/g03207/laws.FnExactApplyBits", spec := "fnExactApplyBits", apart := false }
def FnExactApplyBitsSaid : Prop := fnExactApplyBitsRow.holds Try.pinned (OpenSpec.ofChange fnExactApplyBitsSpec)

/-- ITS FALSE NEIGHBOUR: 'it returns false'. Refute it at one input. -/
def fnExactApplyBitsWrong : ChangeSpec := { name := "fnExactApplyBits", fn := fun _ => fun
  | [d1, d2] => { results := [.lit (.bool false)], args := [d1, d2] }
  | _ => none }
def FnExactApplyBitsWrongFalsely : Prop := fnExactApplyBitsRow.holds Try.pinned (OpenSpec.ofChange fnExactApplyBitsWrong)

/-- 'laws.FnExactDepthOf': WHATEVER THE INPUT: true; the input reads as it did. -/
def fnExactDepthOfSpec : ChangeSpec := { name := "fnExactDepthOf", fn := fun _ => fun
  | [d] => { results := [.lit (.bool true)], args := [d] }
  | _ => none }
def fnExactDepthOfRow : OpenClaim := { program := "ytjcgehnjhmnehaa", sum := "b858cd0faffff97b943ad3438ce27c27ed052508f5e7a50e890ee383027226ce", func := "loop.example/g03207/laws.FnExactDepthOf", spec := "fnExactDepthOf", apart := false }
def FnExactDepthOfSaid : Prop := fnExactDepthOfRow.holds Try.pinned (OpenSpec.ofChange fnExactDepthOfSpec)

/-- ITS FALSE NEIGHBOUR: 'it returns false'. Refute it at one input. -/
def fnExactDepthOfWrong : ChangeSpec := { name := "fnExactDepthOf", fn := fun _ => fun
  | [d] => { results := [.lit (.bool false)], args := [d] }
  | _ => none }
def FnExactDepthOfWrongFalsely : Prop := fnExactDepthOfRow.holds Try.pinned (OpenSpec.ofChange fnExactDepthOfWrong)

/-- 'laws.FnExactDoSame': WHATEVER THE INPUT: true; the input reads as it did. -/
def fnExactDoSameSpec : ChangeSpec := { name := "fnExactDoSame", fn := fun _ => fun
  | [d1, d2] => { results := [.lit (.bool true)], args := [d1, d2] }
  | _ => none }
def fnExactDoSameRow : OpenClaim := { program := "ytjcgehnjhmnehaa", sum := "b858cd0faffff97b943ad3438ce27c27ed052508f5e7a50e890ee383027226ce", func := "loop.example/g03207/laws.FnExactDoSame", spec := "fnExactDoSame", apart := false }
def FnExactDoSameSaid : Prop := fnExactDoSameRow.holds Try.pinned (OpenSpec.ofChange fnExactDoSameSpec)

/-- ITS FALSE NEIGHBOUR: 'it returns false'. Refute it at one input. -/
def fnExactDoSameWrong : ChangeSpec := { name := "fnExactDoSame", fn := fun _ => fun
  | [d1, d2] => { results := [.lit (.bool false)], args := [d1, d2] }
  | _ => none }
def FnExactDoSameWrongFalsely : Prop := fnExactDoSameRow.holds Try.pinned (OpenSpec.ofChange fnExactDoSameWrong)

/-- 'laws.FnExactIsPrimitive': WHATEVER THE INPUT: true; the input reads as it did. -/
def fnExactIsPrimitiveSpec : ChangeSpec := { name := "fnExactIsPrimitive", fn := fun _ => fun
  | [d] => { results := [.lit (.bool true)], args := [d] }
  | _ => none }
def fnExactIsPrimitiveRow : OpenClaim := { program := "ytjcgehnjhmnehaa", sum := "b858cd0faffff97b943ad3438ce27c27ed052508f5e7a50e890ee383027226ce", func := "loop.example/g03207/laws.FnExactIsPrimitive", spec := "fnExactIsPrimitive", unfollowed := true, recurses := true, apart := false }
def FnExactIsPrimitiveSaid : Prop := fnExactIsPrimitiveRow.holds Try.pinned (OpenSpec.ofChange fnExactIsPrimitiveSpec)

/-- ITS FALSE NEIGHBOUR: 'it returns false'. Refute it at one input. -/
def fnExactIsPrimitiveWrong : ChangeSpec := { name := "fnExactIsPrimitive", fn := fun _ => fun
  | [d] => { results := [.lit (.bool false)], args := [d] }
  | _ => none }
def FnExactIsPrimitiveWrongFalsely : Prop := fnExactIsPrimitiveRow.holds Try.pinned (OpenSpec.ofChange fnExactIsPrimitiveWrong)

/-- 'laws.FnExactSameNetwork': WHATEVER THE INPUT: true; the input reads as it did. -/
def fnExactSameNetworkSpec : ChangeSpec := { name := "fnExactSameNetwork", fn := fun _ => fun
  | [d1, d2] => { results := [.lit (.bool true)], args := [d1, d2] }
  | _ => none }
def fnExactSameNetworkRow : OpenClaim := { program := "ytjcgehnjhmnehaa", sum := "b858cd0faffff97b943ad3438ce27c27ed052508f5e7a50e890ee383027226ce", func := "loop.example/g03207/laws.FnExactSameNetwork", spec := "fnExactSameNetwork", unfollowed := true, recurses := true, apart := false }
def FnExactSameNetworkSaid : Prop := fnExactSameNetworkRow.holds Try.pinned (OpenSpec.ofChange fnExactSameNetworkSpec)

/-- ITS FALSE NEIGHBOUR: 'it returns false'. Refute it at one input. -/
def fnExactSameNetworkWrong : ChangeSpec := { name := "fnExactSameNetwork", fn := fun _ => fun
  | [d1, d2] => { results := [.lit (.bool false)], args := [d1, d2] }
  | _ => none }
def FnExactSameNetworkWrongFalsely : Prop := fnExactSameNetworkRow.holds Try.pinned (OpenSpec.ofChange fnExactSameNetworkWrong)

/-- 'laws.FnExactLevelsOf': WHATEVER THE INPUT: true; the input reads as it did. -/
def fnExactLevelsOfSpec : ChangeSpec := { name := "fnExactLevelsOf", fn := fun _ => fun
  | [d] => { results := [.lit (.bool true)], args := [d] }
  | _ => none }
def fnExactLevelsOfRow : OpenClaim := { program := "ytjcgehnjhmnehaa", sum := "b858cd0faffff97b943ad3438ce27c27ed052508f5e7a50e890ee383027226ce", func := "loop.example/g03207/laws.FnExactLevelsOf", spec := "fnExactLevelsOf", apart := false }
def FnExactLevelsOfSaid : Prop := fnExactLevelsOfRow.holds Try.pinned (OpenSpec.ofChange fnExactLevelsOfSpec)

/-- ITS FALSE NEIGHBOUR: 'it returns false'. Refute it at one input. -/
def fnExactLevelsOfWrong : ChangeSpec := { name := "fnExactLevelsOf", fn := fun _ => fun
  | [d] => { results := [.lit (.bool false)], args := [d] }
  | _ => none }
def FnExactLevelsOfWrongFalsely : Prop := fnExactLevelsOfRow.holds Try.pinned (OpenSpec.ofChange fnExactLevelsOfWrong)

/-- 'laws.FnExactApplyNetwork': WHATEVER THE INPUT: true; the input reads as it did. -/
def fnExactApplyNetworkSpec : ChangeSpec := { name := "fnExactApplyNetwork", fn := fun _ => fun
  | [d1, d2] => { results := [.lit (.bool true)], args := [d1, d2] }
  | _ => none }
def fnExactApplyNetworkRow : OpenClaim := { program := "ytjcgehnjhmnehaa", sum := "b858cd0faffff97b943ad3438ce27c27ed052508f5e7a50e890ee383027226ce", func := "loop.example/g03207/laws.FnExactApplyNetwork", spec := "fnExactApplyNetwork", apart := false }
def FnExactApplyNetworkSaid : Prop := fnExactApplyNetworkRow.holds Try.pinned (OpenSpec.ofChange fnExactApplyNetworkSpec)

/-- ITS FALSE NEIGHBOUR: 'it returns false'. Refute it at one input. -/
def fnExactApplyNetworkWrong : ChangeSpec := { name := "fnExactApplyNetwork", fn := fun _ => fun
  | [d1, d2] => { results := [.lit (.bool false)], args := [d1, d2] }
  | _ => none }
def FnExactApplyNetworkWrongFalsely : Prop := fnExactApplyNetworkRow.holds Try.pinned (OpenSpec.ofChange fnExactApplyNetworkWrong)

/-- 'laws.FnExactPlaceNetwork': WHATEVER THE INPUT: true; the input reads as it did. -/
def fnExactPlaceNetworkSpec : ChangeSpec := { name := "fnExactPlaceNetwork", fn := fun _ => fun
  | [d1, d2, d3] => { results := [.lit (.bool true)], args := [d1, d2, d3] }
  | _ => none }
def fnExactPlaceNetworkRow : OpenClaim := { program := "ytjcgehnjhmnehaa", sum := "b858cd0faffff97b943ad3438ce27c27ed052508f5e7a50e890ee383027226ce", func := "loop.example/g03207/laws.FnExactPlaceNetwork", spec := "fnExactPlaceNetwork", unfollowed := true, recurses := true, apart := false }
def FnExactPlaceNetworkSaid : Prop := fnExactPlaceNetworkRow.holds Try.pinned (OpenSpec.ofChange fnExactPlaceNetworkSpec)

/-- ITS FALSE NEIGHBOUR: 'it returns false'. Refute it at one input. -/
def fnExactPlaceNetworkWrong : ChangeSpec := { name := "fnExactPlaceNetwork", fn := fun _ => fun
  | [d1, d2, d3] => { results := [.lit (.bool false)], args := [d1, d2, d3] }
  | _ => none }
def FnExactPlaceNetworkWrongFalsely : Prop := fnExactPlaceNetworkRow.holds Try.pinned (OpenSpec.ofChange fnExactPlaceNetworkWrong)

/-- 'laws.FnExactSortsOrder': WHATEVER THE INPUT: true; the input reads as it did. -/
def fnExactSortsOrderSpec : ChangeSpec := { name := "fnExactSortsOrder", fn := fun _ => fun
  | [d1, d2] => { results := [.lit (.bool true)], args := [d1, d2] }
  | _ => none }
def fnExactSortsOrderRow : OpenClaim := { program := "ytjcgehnjhmnehaa", sum := "b858cd0faffff97b943ad3438ce27c27ed052508f5e7a50e890ee383027226ce", func := "loop.example/g03207/laws.FnExactSortsOrder", spec := "fnExactSortsOrder", apart := false }
def FnExactSortsOrderSaid : Prop := fnExactSortsOrderRow.holds Try.pinned (OpenSpec.ofChange fnExactSortsOrderSpec)

/-- ITS FALSE NEIGHBOUR: 'it returns false'. Refute it at one input. -/
def fnExactSortsOrderWrong : ChangeSpec := { name := "fnExactSortsOrder", fn := fun _ => fun
  | [d1, d2] => { results := [.lit (.bool false)], args := [d1, d2] }
  | _ => none }
def FnExactSortsOrderWrongFalsely : Prop := fnExactSortsOrderRow.holds Try.pinned (OpenSpec.ofChange fnExactSortsOrderWrong)

/-- 'laws.FnExactUseOf': WHATEVER THE INPUT: true; the input reads as it did. -/
def fnExactUseOfSpec : ChangeSpec := { name := "fnExactUseOf", fn := fun _ => fun
  | [d] => { results := [.lit (.bool true)], args := [d] }
  | _ => none }
def fnExactUseOfRow : OpenClaim := { program := "ytjcgehnjhmnehaa", sum := "b858cd0faffff97b943ad3438ce27c27ed052508f5e7a50e890ee383027226ce", func := "loop.example/g03207/laws.FnExactUseOf", spec := "fnExactUseOf", apart := false }
def FnExactUseOfSaid : Prop := fnExactUseOfRow.holds Try.pinned (OpenSpec.ofChange fnExactUseOfSpec)

/-- ITS FALSE NEIGHBOUR: 'it returns false'. Refute it at one input. -/
def fnExactUseOfWrong : ChangeSpec := { name := "fnExactUseOf", fn := fun _ => fun
  | [d] => { results := [.lit (.bool false)], args := [d] }
  | _ => none }
def FnExactUseOfWrongFalsely : Prop := fnExactUseOfRow.holds Try.pinned (OpenSpec.ofChange fnExactUseOfWrong)

/-- 'laws.FnExactMirrorNetwork': WHATEVER THE INPUT: true; the input reads as it did. -/
def fnExactMirrorNetworkSpec : ChangeSpec := { name := "fnExactMirrorNetwork", fn := fun _ => fun
  | [d] => { results := [.lit (.bool true)], args := [d] }
  | _ => none }
def fnExactMirrorNetworkRow : OpenClaim := { program := "ytjcgehnjhmnehaa", sum := "b858cd0faffff97b943ad3438ce27c27ed052508f5e7a50e890ee383027226ce", func := "loop.example/g03207/laws.FnExactMirrorNetwork", spec := "fnExactMirrorNetwork", unfollowed := true, recurses := true, apart := false }
def FnExactMirrorNetworkSaid : Prop := fnExactMirrorNetworkRow.holds Try.pinned (OpenSpec.ofChange fnExactMirrorNetworkSpec)

/-- ITS FALSE NEIGHBOUR: 'it returns false'. Refute it at one input. -/
def fnExactMirrorNetworkWrong : ChangeSpec := { name := "fnExactMirrorNetwork", fn := fun _ => fun
  | [d] => { results := [.lit (.bool false)], args := [d] }
  | _ => none }
def FnExactMirrorNetworkWrongFalsely : Prop := fnExactMirrorNetworkRow.holds Try.pinned (OpenSpec.ofChange fnExactMirrorNetworkWrong)

/-- 'laws.FnExactSortsReverse': WHATEVER THE INPUT: true; the input reads as it did. -/
def fnExactSortsReverseSpec : ChangeSpec := { name := "fnExactSortsReverse", fn := fun _ => fun
  | [d] => { results := [.lit (.bool true)], args := [d] }
  | _ => none }
def fnExactSortsReverseRow : OpenClaim := { program := "ytjcgehnjhmnehaa", sum := "b858cd0faffff97b943ad3438ce27c27ed052508f5e7a50e890ee383027226ce", func := "loop.example/g03207/laws.FnExactSortsReverse", spec := "fnExactSortsReverse", apart := false }
def FnExactSortsReverseSaid : Prop := fnExactSortsReverseRow.holds Try.pinned (OpenSpec.ofChange fnExactSortsReverseSpec)

/-- ITS FALSE NEIGHBOUR: 'it returns false'. Refute it at one input. -/
def fnExactSortsReverseWrong : ChangeSpec := { name := "fnExactSortsReverse", fn := fun _ => fun
  | [d] => { results := [.lit (.bool false)], args := [d] }
  | _ => none }
def FnExactSortsReverseWrongFalsely : Prop := fnExactSortsReverseRow.holds Try.pinned (OpenSpec.ofChange fnExactSortsReverseWrong)

/-- 'laws.FnExactTurnNetwork': WHATEVER THE INPUT: true; the input reads as it did. -/
def fnExactTurnNetworkSpec : ChangeSpec := { name := "fnExactTurnNetwork", fn := fun _ => fun
  | [d] => { results := [.lit (.bool true)], args := [d] }
  | _ => none }
def fnExactTurnNetworkRow : OpenClaim := { program := "ytjcgehnjhmnehaa", sum := "b858cd0faffff97b943ad3438ce27c27ed052508f5e7a50e890ee383027226ce", func := "loop.example/g03207/laws.FnExactTurnNetwork", spec := "fnExactTurnNetwork", apart := false }
def FnExactTurnNetworkSaid : Prop := fnExactTurnNetworkRow.holds Try.pinned (OpenSpec.ofChange fnExactTurnNetworkSpec)

/-- ITS FALSE NEIGHBOUR: 'it returns false'. Refute it at one input. -/
def fnExactTurnNetworkWrong : ChangeSpec := { name := "fnExactTurnNetwork", fn := fun _ => fun
  | [d] => { results := [.lit (.bool false)], args := [d] }
  | _ => none }
def FnExactTurnNetworkWrongFalsely : Prop := fnExactTurnNetworkRow.holds Try.pinned (OpenSpec.ofChange fnExactTurnNetworkWrong)

/-- 'laws.FnExactIdleOf': WHATEVER THE INPUT: true; the input reads as it did. -/
def fnExactIdleOfSpec : ChangeSpec := { name := "fnExactIdleOf", fn := fun _ => fun
  | [d] => { results := [.lit (.bool true)], args := [d] }
  | _ => none }
def fnExactIdleOfRow : OpenClaim := { program := "ytjcgehnjhmnehaa", sum := "b858cd0faffff97b943ad3438ce27c27ed052508f5e7a50e890ee383027226ce", func := "loop.example/g03207/laws.FnExactIdleOf", spec := "fnExactIdleOf", apart := false }
def FnExactIdleOfSaid : Prop := fnExactIdleOfRow.holds Try.pinned (OpenSpec.ofChange fnExactIdleOfSpec)

/-- ITS FALSE NEIGHBOUR: 'it returns false'. Refute it at one input. -/
def fnExactIdleOfWrong : ChangeSpec := { name := "fnExactIdleOf", fn := fun _ => fun
  | [d] => { results := [.lit (.bool false)], args := [d] }
  | _ => none }
def FnExactIdleOfWrongFalsely : Prop := fnExactIdleOfRow.holds Try.pinned (OpenSpec.ofChange fnExactIdleOfWrong)

/-- 'laws.FnExactStandardOf': WHATEVER THE INPUT: true; the input reads as it did. -/
def fnExactStandardOfSpec : ChangeSpec := { name := "fnExactStandardOf", fn := fun _ => fun
  | [d] => { results := [.lit (.bool true)], args := [d] }
  | _ => none }
def fnExactStandardOfRow : OpenClaim := { program := "ytjcgehnjhmnehaa", sum := "b858cd0faffff97b943ad3438ce27c27ed052508f5e7a50e890ee383027226ce", func := "loop.example/g03207/laws.FnExactStandardOf", spec := "fnExactStandardOf", apart := false }
def FnExactStandardOfSaid : Prop := fnExactStandardOfRow.holds Try.pinned (OpenSpec.ofChange fnExactStandardOfSpec)

/-- ITS FALSE NEIGHBOUR: 'it returns false'. Refute it at one input. -/
def fnExactStandardOfWrong : ChangeSpec := { name := "fnExactStandardOf", fn := fun _ => fun
  | [d] => { results := [.lit (.bool false)], args := [d] }
  | _ => none }
def FnExactStandardOfWrongFalsely : Prop := fnExactStandardOfRow.holds Try.pinned (OpenSpec.ofChange fnExactStandardOfWrong)

/-- 'laws.FnExactRenameWires': WHATEVER THE INPUT: true; the input reads as it did. -/
def fnExactRenameWiresSpec : ChangeSpec := { name := "fnExactRenameWires", fn := fun _ => fun
  | [d1, d2] => { results := [.lit (.bool true)], args := [d1, d2] }
  | _ => none }
def fnExactRenameWiresRow : OpenClaim := { program := "ytjcgehnjhmnehaa", sum := "b858cd0faffff97b943ad3438ce27c27ed052508f5e7a50e890ee383027226ce", func := "loop.example/g03207/laws.FnExactRenameWires", spec := "fnExactRenameWires", unfollowed := true, recurses := true, apart := false }
def FnExactRenameWiresSaid : Prop := fnExactRenameWiresRow.holds Try.pinned (OpenSpec.ofChange fnExactRenameWiresSpec)

/-- ITS FALSE NEIGHBOUR: 'it returns false'. Refute it at one input. -/
def fnExactRenameWiresWrong : ChangeSpec := { name := "fnExactRenameWires", fn := fun _ => fun
  | [d1, d2] => { results := [.lit (.bool false)], args := [d1, d2] }
  | _ => none }
def FnExactRenameWiresWrongFalsely : Prop := fnExactRenameWiresRow.holds Try.pinned (OpenSpec.ofChange fnExactRenameWiresWrong)

/-- 'laws.FnExactJoinNetworks': WHATEVER THE INPUT: true; the input reads as it did. -/
def fnExactJoinNetworksSpec : ChangeSpec := { name := "fnExactJoinNetworks", fn := fun _ => fun
  | [d1, d2] => { results := [.lit (.bool true)], args := [d1, d2] }
  | _ => none }
def fnExactJoinNetworksRow : OpenClaim := { program := "ytjcgehnjhmnehaa", sum := "b858cd0faffff97b943ad3438ce27c27ed052508f5e7a50e890ee383027226ce", func := "loop.example/g03207/laws.FnExactJoinNetworks", spec := "fnExactJoinNetworks", apart := false }
def FnExactJoinNetworksSaid : Prop := fnExactJoinNetworksRow.holds Try.pinned (OpenSpec.ofChange fnExactJoinNetworksSpec)

/-- ITS FALSE NEIGHBOUR: 'it returns false'. Refute it at one input. -/
def fnExactJoinNetworksWrong : ChangeSpec := { name := "fnExactJoinNetworks", fn := fun _ => fun
  | [d1, d2] => { results := [.lit (.bool false)], args := [d1, d2] }
  | _ => none }
def FnExactJoinNetworksWrongFalsely : Prop := fnExactJoinNetworksRow.holds Try.pinned (OpenSpec.ofChange fnExactJoinNetworksWrong)

/-- 'laws.FnExactDropPair': WHATEVER THE INPUT: true; the input reads as it did. -/
def fnExactDropPairSpec : ChangeSpec := { name := "fnExactDropPair", fn := fun _ => fun
  | [d1, d2] => { results := [.lit (.bool true)], args := [d1, d2] }
  | _ => none }
def fnExactDropPairRow : OpenClaim := { program := "ytjcgehnjhmnehaa", sum := "b858cd0faffff97b943ad3438ce27c27ed052508f5e7a50e890ee383027226ce", func := "loop.example/g03207/laws.FnExactDropPair", spec := "fnExactDropPair", apart := false }
def FnExactDropPairSaid : Prop := fnExactDropPairRow.holds Try.pinned (OpenSpec.ofChange fnExactDropPairSpec)

/-- ITS FALSE NEIGHBOUR: 'it returns false'. Refute it at one input. -/
def fnExactDropPairWrong : ChangeSpec := { name := "fnExactDropPair", fn := fun _ => fun
  | [d1, d2] => { results := [.lit (.bool false)], args := [d1, d2] }
  | _ => none }
def FnExactDropPairWrongFalsely : Prop := fnExactDropPairRow.holds Try.pinned (OpenSpec.ofChange fnExactDropPairWrong)

/-- 'laws.FnExactCountUnsorted': WHATEVER THE INPUT: true; the input reads as it did. -/
def fnExactCountUnsortedSpec : ChangeSpec := { name := "fnExactCountUnsorted", fn := fun _ => fun
  | [d] => { results := [.lit (.bool true)], args := [d] }
  | _ => none }
def fnExactCountUnsortedRow : OpenClaim := { program := "ytjcgehnjhmnehaa", sum := "b858cd0faffff97b943ad3438ce27c27ed052508f5e7a50e890ee383027226ce", func := "loop.example/g03207/laws.FnExactCountUnsorted", spec := "fnExactCountUnsorted", apart := false }
def FnExactCountUnsortedSaid : Prop := fnExactCountUnsortedRow.holds Try.pinned (OpenSpec.ofChange fnExactCountUnsortedSpec)

/-- ITS FALSE NEIGHBOUR: 'it returns false'. Refute it at one input. -/
def fnExactCountUnsortedWrong : ChangeSpec := { name := "fnExactCountUnsorted", fn := fun _ => fun
  | [d] => { results := [.lit (.bool false)], args := [d] }
  | _ => none }
def FnExactCountUnsortedWrongFalsely : Prop := fnExactCountUnsortedRow.holds Try.pinned (OpenSpec.ofChange fnExactCountUnsortedWrong)

/-- 'laws.FnExactWithoutIdle': WHATEVER THE INPUT: true; the input reads as it did. -/
def fnExactWithoutIdleSpec : ChangeSpec := { name := "fnExactWithoutIdle", fn := fun _ => fun
  | [d] => { results := [.lit (.bool true)], args := [d] }
  | _ => none }
def fnExactWithoutIdleRow : OpenClaim := { program := "ytjcgehnjhmnehaa", sum := "b858cd0faffff97b943ad3438ce27c27ed052508f5e7a50e890ee383027226ce", func := "loop.example/g03207/laws.FnExactWithoutIdle", spec := "fnExactWithoutIdle", apart := false }
def FnExactWithoutIdleSaid : Prop := fnExactWithoutIdleRow.holds Try.pinned (OpenSpec.ofChange fnExactWithoutIdleSpec)

/-- ITS FALSE NEIGHBOUR: 'it returns false'. Refute it at one input. -/
def fnExactWithoutIdleWrong : ChangeSpec := { name := "fnExactWithoutIdle", fn := fun _ => fun
  | [d] => { results := [.lit (.bool false)], args := [d] }
  | _ => none }
def FnExactWithoutIdleWrongFalsely : Prop := fnExactWithoutIdleRow.holds Try.pinned (OpenSpec.ofChange fnExactWithoutIdleWrong)

/-- 'laws.FnExactFirstUnsorted': WHATEVER THE INPUT: true; the input reads as it did. -/
def fnExactFirstUnsortedSpec : ChangeSpec := { name := "fnExactFirstUnsorted", fn := fun _ => fun
  | [d] => { results := [.lit (.bool true)], args := [d] }
  | _ => none }
def fnExactFirstUnsortedRow : OpenClaim := { program := "ytjcgehnjhmnehaa", sum := "b858cd0faffff97b943ad3438ce27c27ed052508f5e7a50e890ee383027226ce", func := "loop.example/g03207/laws.FnExactFirstUnsorted", spec := "fnExactFirstUnsorted", apart := false }
def FnExactFirstUnsortedSaid : Prop := fnExactFirstUnsortedRow.holds Try.pinned (OpenSpec.ofChange fnExactFirstUnsortedSpec)

/-- ITS FALSE NEIGHBOUR: 'it returns false'. Refute it at one input. -/
def fnExactFirstUnsortedWrong : ChangeSpec := { name := "fnExactFirstUnsorted", fn := fun _ => fun
  | [d] => { results := [.lit (.bool false)], args := [d] }
  | _ => none }
def FnExactFirstUnsortedWrongFalsely : Prop := fnExactFirstUnsortedRow.holds Try.pinned (OpenSpec.ofChange fnExactFirstUnsortedWrong)

/-- 'laws.FnExactIsSorting': WHATEVER THE INPUT: true; the input reads as it did. -/
def fnExactIsSortingSpec : ChangeSpec := { name := "fnExactIsSorting", fn := fun _ => fun
  | [d] => { results := [.lit (.bool true)], args := [d] }
  | _ => none }
def fnExactIsSortingRow : OpenClaim := { program := "ytjcgehnjhmnehaa", sum := "b858cd0faffff97b943ad3438ce27c27ed052508f5e7a50e890ee383027226ce", func := "loop.example/g03207/laws.FnExactIsSorting", spec := "fnExactIsSorting", apart := false }
def FnExactIsSortingSaid : Prop := fnExactIsSortingRow.holds Try.pinned (OpenSpec.ofChange fnExactIsSortingSpec)

/-- ITS FALSE NEIGHBOUR: 'it returns false'. Refute it at one input. -/
def fnExactIsSortingWrong : ChangeSpec := { name := "fnExactIsSorting", fn := fun _ => fun
  | [d] => { results := [.lit (.bool false)], args := [d] }
  | _ => none }
def FnExactIsSortingWrongFalsely : Prop := fnExactIsSortingRow.holds Try.pinned (OpenSpec.ofChange fnExactIsSortingWrong)

/-- 'laws.FnExactCutWire': WHATEVER THE INPUT: true; the input reads as it did. -/
def fnExactCutWireSpec : ChangeSpec := { name := "fnExactCutWire", fn := fun _ => fun
  | [d1, d2, d3] => { results := [.lit (.bool true)], args := [d1, d2, d3] }
  | _ => none }
def fnExactCutWireRow : OpenClaim := { program := "ytjcgehnjhmnehaa", sum := "b858cd0faffff97b943ad3438ce27c27ed052508f5e7a50e890ee383027226ce", func := "loop.example/g03207/laws.FnExactCutWire", spec := "fnExactCutWire", unfollowed := true, recurses := true, apart := false }
def FnExactCutWireSaid : Prop := fnExactCutWireRow.holds Try.pinned (OpenSpec.ofChange fnExactCutWireSpec)

/-- ITS FALSE NEIGHBOUR: 'it returns false'. Refute it at one input. -/
def fnExactCutWireWrong : ChangeSpec := { name := "fnExactCutWire", fn := fun _ => fun
  | [d1, d2, d3] => { results := [.lit (.bool false)], args := [d1, d2, d3] }
  | _ => none }
def FnExactCutWireWrongFalsely : Prop := fnExactCutWireRow.holds Try.pinned (OpenSpec.ofChange fnExactCutWireWrong)

/-- 'laws.FnExactIsNeeded': WHATEVER THE INPUT: true; the input reads as it did. -/
def fnExactIsNeededSpec : ChangeSpec := { name := "fnExactIsNeeded", fn := fun _ => fun
  | [d1, d2] => { results := [.lit (.bool true)], args := [d1, d2] }
  | _ => none }
def fnExactIsNeededRow : OpenClaim := { program := "ytjcgehnjhmnehaa", sum := "b858cd0faffff97b943ad3438ce27c27ed052508f5e7a50e890ee383027226ce", func := "loop.example/g03207/laws.FnExactIsNeeded", spec := "fnExactIsNeeded", apart := false }
def FnExactIsNeededSaid : Prop := fnExactIsNeededRow.holds Try.pinned (OpenSpec.ofChange fnExactIsNeededSpec)

/-- ITS FALSE NEIGHBOUR: 'it returns false'. Refute it at one input. -/
def fnExactIsNeededWrong : ChangeSpec := { name := "fnExactIsNeeded", fn := fun _ => fun
  | [d1, d2] => { results := [.lit (.bool false)], args := [d1, d2] }
  | _ => none }
def FnExactIsNeededWrongFalsely : Prop := fnExactIsNeededRow.holds Try.pinned (OpenSpec.ofChange fnExactIsNeededWrong)

/-- 'laws.FnExactFailingList': WHATEVER THE INPUT: true; the input reads as it did. -/
def fnExactFailingListSpec : ChangeSpec := { name := "fnExactFailingList", fn := fun _ => fun
  | [d] => { results := [.lit (.bool true)], args := [d] }
  | _ => none }
def fnExactFailingListRow : OpenClaim := { program := "ytjcgehnjhmnehaa", sum := "b858cd0faffff97b943ad3438ce27c27ed052508f5e7a50e890ee383027226ce", func := "loop.example/g03207/laws.FnExactFailingList", spec := "fnExactFailingList", apart := false }
def FnExactFailingListSaid : Prop := fnExactFailingListRow.holds Try.pinned (OpenSpec.ofChange fnExactFailingListSpec)

/-- ITS FALSE NEIGHBOUR: 'it returns false'. Refute it at one input. -/
def fnExactFailingListWrong : ChangeSpec := { name := "fnExactFailingList", fn := fun _ => fun
  | [d] => { results := [.lit (.bool false)], args := [d] }
  | _ => none }
def FnExactFailingListWrongFalsely : Prop := fnExactFailingListRow.holds Try.pinned (OpenSpec.ofChange fnExactFailingListWrong)

/-- 'laws.FnExactByLevels': WHATEVER THE INPUT: true; the input reads as it did. -/
def fnExactByLevelsSpec : ChangeSpec := { name := "fnExactByLevels", fn := fun _ => fun
  | [d] => { results := [.lit (.bool true)], args := [d] }
  | _ => none }
def fnExactByLevelsRow : OpenClaim := { program := "ytjcgehnjhmnehaa", sum := "b858cd0faffff97b943ad3438ce27c27ed052508f5e7a50e890ee383027226ce", func := "loop.example/g03207/laws.FnExactByLevels", spec := "fnExactByLevels", unfollowed := true, recurses := true, apart := false }
def FnExactByLevelsSaid : Prop := fnExactByLevelsRow.holds Try.pinned (OpenSpec.ofChange fnExactByLevelsSpec)

/-- ITS FALSE NEIGHBOUR: 'it returns false'. Refute it at one input. -/
def fnExactByLevelsWrong : ChangeSpec := { name := "fnExactByLevels", fn := fun _ => fun
  | [d] => { results := [.lit (.bool false)], args := [d] }
  | _ => none }
def FnExactByLevelsWrongFalsely : Prop := fnExactByLevelsRow.holds Try.pinned (OpenSpec.ofChange fnExactByLevelsWrong)

/-- 'laws.FnExactAfterPair': WHATEVER THE INPUT: true; the input reads as it did. -/
def fnExactAfterPairSpec : ChangeSpec := { name := "fnExactAfterPair", fn := fun _ => fun
  | [d1, d2, d3, d4] => { results := [.lit (.bool true)], args := [d1, d2, d3, d4] }
  | _ => none }
def fnExactAfterPairRow : OpenClaim := { program := "ytjcgehnjhmnehaa", sum := "b858cd0faffff97b943ad3438ce27c27ed052508f5e7a50e890ee383027226ce", func := "loop.example/g03207/laws.FnExactAfterPair", spec := "fnExactAfterPair", unfollowed := true, recurses := true, apart := false }
def FnExactAfterPairSaid : Prop := fnExactAfterPairRow.holds Try.pinned (OpenSpec.ofChange fnExactAfterPairSpec)

/-- ITS FALSE NEIGHBOUR: 'it returns false'. Refute it at one input. -/
def fnExactAfterPairWrong : ChangeSpec := { name := "fnExactAfterPair", fn := fun _ => fun
  | [d1, d2, d3, d4] => { results := [.lit (.bool false)], args := [d1, d2, d3, d4] }
  | _ => none }
def FnExactAfterPairWrongFalsely : Prop := fnExactAfterPairRow.holds Try.pinned (OpenSpec.ofChange fnExactAfterPairWrong)

/-- 'laws.FnExactRenamedMasks': WHATEVER THE INPUT: true; the input reads as it did. -/
def fnExactRenamedMasksSpec : ChangeSpec := { name := "fnExactRenamedMasks", fn := fun _ => fun
  | [d1, d2, d3] => { results := [.lit (.bool true)], args := [d1, d2, d3] }
  | _ => none }
def fnExactRenamedMasksRow : OpenClaim := { program := "ytjcgehnjhmnehaa", sum := "b858cd0faffff97b943ad3438ce27c27ed052508f5e7a50e890ee383027226ce", func := "loop.example/g03207/laws.FnExactRenamedMasks", spec := "fnExactRenamedMasks", unfollowed := true, recurses := true, apart := false }
def FnExactRenamedMasksSaid : Prop := fnExactRenamedMasksRow.holds Try.pinned (OpenSpec.ofChange fnExactRenamedMasksSpec)

/-- ITS FALSE NEIGHBOUR: 'it returns false'. Refute it at one input. -/
def fnExactRenamedMasksWrong : ChangeSpec := { name := "fnExactRenamedMasks", fn := fun _ => fun
  | [d1, d2, d3] => { results := [.lit (.bool false)], args := [d1, d2, d3] }
  | _ => none }
def FnExactRenamedMasksWrongFalsely : Prop := fnExactRenamedMasksRow.holds Try.pinned (OpenSpec.ofChange fnExactRenamedMasksWrong)

/-- 'laws.FnExactResultsOf': WHATEVER THE INPUT: true; the input reads as it did. -/
def fnExactResultsOfSpec : ChangeSpec := { name := "fnExactResultsOf", fn := fun _ => fun
  | [d] => { results := [.lit (.bool true)], args := [d] }
  | _ => none }
def fnExactResultsOfRow : OpenClaim := { program := "ytjcgehnjhmnehaa", sum := "b858cd0faffff97b943ad3438ce27c27ed052508f5e7a50e890ee383027226ce", func := "loop.example/g03207/laws.FnExactResultsOf", spec := "fnExactResultsOf", unfollowed := true, recurses := true, apart := false }
def FnExactResultsOfSaid : Prop := fnExactResultsOfRow.holds Try.pinned (OpenSpec.ofChange fnExactResultsOfSpec)

/-- ITS FALSE NEIGHBOUR: 'it returns false'. Refute it at one input. -/
def fnExactResultsOfWrong : ChangeSpec := { name := "fnExactResultsOf", fn := fun _ => fun
  | [d] => { results := [.lit (.bool false)], args := [d] }
  | _ => none }
def FnExactResultsOfWrongFalsely : Prop := fnExactResultsOfRow.holds Try.pinned (OpenSpec.ofChange fnExactResultsOfWrong)

/-- 'laws.FnExactFitsInto': WHATEVER THE INPUT: true; the input reads as it did. -/
def fnExactFitsIntoSpec : ChangeSpec := { name := "fnExactFitsInto", fn := fun _ => fun
  | [d1, d2, d3] => { results := [.lit (.bool true)], args := [d1, d2, d3] }
  | _ => none }
def fnExactFitsIntoRow : OpenClaim := { program := "ytjcgehnjhmnehaa", sum := "b858cd0faffff97b943ad3438ce27c27ed052508f5e7a50e890ee383027226ce", func := "loop.example/g03207/laws.FnExactFitsInto", spec := "fnExactFitsInto", unfollowed := true, recurses := true, apart := false }
def FnExactFitsIntoSaid : Prop := fnExactFitsIntoRow.holds Try.pinned (OpenSpec.ofChange fnExactFitsIntoSpec)

/-- ITS FALSE NEIGHBOUR: 'it returns false'. Refute it at one input. -/
def fnExactFitsIntoWrong : ChangeSpec := { name := "fnExactFitsInto", fn := fun _ => fun
  | [d1, d2, d3] => { results := [.lit (.bool false)], args := [d1, d2, d3] }
  | _ => none }
def FnExactFitsIntoWrongFalsely : Prop := fnExactFitsIntoRow.holds Try.pinned (OpenSpec.ofChange fnExactFitsIntoWrong)

/-- 'laws.FnExactKnownOrder': WHATEVER THE INPUT: true; the input reads as it did. -/
def fnExactKnownOrderSpec : ChangeSpec := { name := "fnExactKnownOrder", fn := fun _ => fun
  | [d] => { results := [.lit (.bool true)], args := [d] }
  | _ => none }
def fnExactKnownOrderRow : OpenClaim := { program := "ytjcgehnjhmnehaa", sum := "b858cd0faffff97b943ad3438ce27c27ed052508f5e7a50e890ee383027226ce", func := "loop.example/g03207/laws.FnExactKnownOrder", spec := "fnExactKnownOrder", unfollowed := true, recurses := true, apart := false }
def FnExactKnownOrderSaid : Prop := fnExactKnownOrderRow.holds Try.pinned (OpenSpec.ofChange fnExactKnownOrderSpec)

/-- ITS FALSE NEIGHBOUR: 'it returns false'. Refute it at one input. -/
def fnExactKnownOrderWrong : ChangeSpec := { name := "fnExactKnownOrder", fn := fun _ => fun
  | [d] => { results := [.lit (.bool false)], args := [d] }
  | _ => none }
def FnExactKnownOrderWrongFalsely : Prop := fnExactKnownOrderRow.holds Try.pinned (OpenSpec.ofChange fnExactKnownOrderWrong)

/-- 'laws.FnResults': WHATEVER THE INPUT: true; the input reads as it did. -/
def fnResultsSpec : ChangeSpec := { name := "fnResults", fn := fun _ => fun
  | [d] => { results := [.lit (.bool true)], args := [d] }
  | _ => none }
def fnResultsRow : OpenClaim := { program := "ytjcgehnjhmnehaa", sum := "b858cd0faffff97b943ad3438ce27c27ed052508f5e7a50e890ee383027226ce", func := "loop.example/g03207/laws.FnResults", spec := "fnResults", unfollowed := true, recurses := true, apart := false }
def FnResultsSaid : Prop := fnResultsRow.holds Try.pinned (OpenSpec.ofChange fnResultsSpec)

/-- ITS FALSE NEIGHBOUR: 'it returns false'. Refute it at one input. -/
def fnResultsWrong : ChangeSpec := { name := "fnResults", fn := fun _ => fun
  | [d] => { results := [.lit (.bool false)], args := [d] }
  | _ => none }
def FnResultsWrongFalsely : Prop := fnResultsRow.holds Try.pinned (OpenSpec.ofChange fnResultsWrong)

/- THE SECOND FORM. 'bulk': how many values and letters a reading holds, each counted each time it is reached (what is shared counts as often as it is met; a slice's spare places count too). A statement '..UptoSaid' is the law's where the arguments, and the package variables that the reading takes, are together of bulk at most 1048576: NARROWER than '..Said'. Prove '..Said' where nothing that the law and all that it calls make is longer than what came in: it says more and counts as full. Else prove '..UptoSaid'. A law counts once. -/
mutual
def uptoBulk {H : Type} : DataW H → Nat
  | .lit (.string bytes) => bytes.length + 1
  | .lit _ => 1
  | .nil => 1
  | .ptr d => uptoBulk d + 1
  | .slice elems spare => uptoBulkAll elems + uptoBulkAll spare + 1
  | .agg parts => uptoBulkAll parts + 1
  | .iface _ d => uptoBulk d + 1
  | .map entries => uptoBulkEntries entries + 1
  | .held _ => 1
def uptoBulkAll {H : Type} : List (DataW H) → Nat
  | [] => 0
  | d :: r => uptoBulk d + uptoBulkAll r
def uptoBulkEntries {H : Type} : List (Lit × DataW H) → Nat
  | [] => 0
  | x :: r => uptoBulkEntry x + uptoBulkEntries r
def uptoBulkEntry {H : Type} : Lit × DataW H → Nat
  | (.string bytes, d) => bytes.length + uptoBulk d + 1
  | (_, d) => uptoBulk d + 1
 end
def uptoSmall : (H : Type) → List (DataW H) → Bool := fun _ ds => decide (uptoBulkAll ds ≤ 1048576)
def OpenSpec.upto (s : _root_.Go.ChangeSpec) : _root_.Go.OpenSpec := { _root_.Go.OpenSpec.ofChange s with cond := some uptoSmall }

/-- 'laws.FnTop', WHERE WHAT IT READS IS OF BULK AT MOST 1048576: true; the input reads as it did. -/
def fnTopUptoRow : OpenClaim := { program := "ytjcgehnjhmnehaa", sum := "b858cd0faffff97b943ad3438ce27c27ed052508f5e7a50e890ee383027226ce", func := "loop.example/g03207/laws.FnTop", spec := "fnTop", unfollowed := true, recurses := true, apart := false, narrowed := true }
def FnTopUptoSaid : Prop := fnTopUptoRow.holds Try.pinned (OpenSpec.upto fnTopSpec)

/-- 'laws.FnExactClustersOf', WHERE WHAT IT READS IS OF BULK AT MOST 1048576: true; the input reads as it did. -/
def fnExactClustersOfUptoRow : OpenClaim := { program := "ytjcgehnjhmnehaa", sum := "b858cd0faffff97b943ad3438ce27c27ed052508f5e7a50e890ee383027226ce", func := "loop.example/g03207/laws.FnExactClustersOf", spec := "fnExactClustersOf", apart := false, narrowed := true }
def FnExactClustersOfUptoSaid : Prop := fnExactClustersOfUptoRow.holds Try.pinned (OpenSpec.upto fnExactClustersOfSpec)

/-- 'laws.FnExactIsStandard', WHERE WHAT IT READS IS OF BULK AT MOST 1048576: true; the input reads as it did. -/
def fnExactIsStandardUptoRow : OpenClaim := { program := "ytjcgehnjhmnehaa", sum := "b858cd0faffff97b943ad3438ce27c27ed052508f5e7a50e890ee383027226ce", func := "loop.example/g03207/laws.FnExactIsStandard", spec := "fnExactIsStandard", unfollowed := true, recurses := true, apart := false, narrowed := true }
def FnExactIsStandardUptoSaid : Prop := fnExactIsStandardUptoRow.holds Try.pinned (OpenSpec.upto fnExactIsStandardSpec)

/-- 'laws.FnExactApplyBits', WHERE WHAT IT READS IS OF BULK AT MOST 1048576: true; the input reads as it did. -/
def fnExactApplyBitsUptoRow : OpenClaim := { program := "ytjcgehnjhmnehaa", sum := "b858cd0faffff97b943ad3438ce27c27ed052508f5e7a50e890ee383027226ce", func := "loop.example/g03207/laws.FnExactApplyBits", spec := "fnExactApplyBits", apart := false, narrowed := true }
def FnExactApplyBitsUptoSaid : Prop := fnExactApplyBitsUptoRow.holds Try.pinned (OpenSpec.upto fnExactApplyBitsSpec)

/-- 'laws.FnExactDepthOf', WHERE WHAT IT READS IS OF BULK AT MOST 1048576: true; the input reads as it did. -/
def fnExactDepthOfUptoRow : OpenClaim := { program := "ytjcgehnjhmnehaa", sum := "b858cd0faffff97b943ad3438ce27c27ed052508f5e7a50e890ee383027226ce", func := "loop.example/g03207/laws.FnExactDepthOf", spec := "fnExactDepthOf", apart := false, narrowed := true }
def FnExactDepthOfUptoSaid : Prop := fnExactDepthOfUptoRow.holds Try.pinned (OpenSpec.upto fnExactDepthOfSpec)

/-- 'laws.FnExactDoSame', WHERE WHAT IT READS IS OF BULK AT MOST 1048576: true; the input reads as it did. -/
def fnExactDoSameUptoRow : OpenClaim := { program := "ytjcgehnjhmnehaa", sum := "b858cd0faffff97b943ad3438ce27c27ed052508f5e7a50e890ee383027226ce", func := "loop.example/g03207/laws.FnExactDoSame", spec := "fnExactDoSame", apart := false, narrowed := true }
def FnExactDoSameUptoSaid : Prop := fnExactDoSameUptoRow.holds Try.pinned (OpenSpec.upto fnExactDoSameSpec)

/-- 'laws.FnExactIsPrimitive', WHERE WHAT IT READS IS OF BULK AT MOST 1048576: true; the input reads as it did. -/
def fnExactIsPrimitiveUptoRow : OpenClaim := { program := "ytjcgehnjhmnehaa", sum := "b858cd0faffff97b943ad3438ce27c27ed052508f5e7a50e890ee383027226ce", func := "loop.example/g03207/laws.FnExactIsPrimitive", spec := "fnExactIsPrimitive", unfollowed := true, recurses := true, apart := false, narrowed := true }
def FnExactIsPrimitiveUptoSaid : Prop := fnExactIsPrimitiveUptoRow.holds Try.pinned (OpenSpec.upto fnExactIsPrimitiveSpec)

/-- 'laws.FnExactSameNetwork', WHERE WHAT IT READS IS OF BULK AT MOST 1048576: true; the input reads as it did. -/
def fnExactSameNetworkUptoRow : OpenClaim := { program := "ytjcgehnjhmnehaa", sum := "b858cd0faffff97b943ad3438ce27c27ed052508f5e7a50e890ee383027226ce", func := "loop.example/g03207/laws.FnExactSameNetwork", spec := "fnExactSameNetwork", unfollowed := true, recurses := true, apart := false, narrowed := true }
def FnExactSameNetworkUptoSaid : Prop := fnExactSameNetworkUptoRow.holds Try.pinned (OpenSpec.upto fnExactSameNetworkSpec)

/-- 'laws.FnExactLevelsOf', WHERE WHAT IT READS IS OF BULK AT MOST 1048576: true; the input reads as it did. -/
def fnExactLevelsOfUptoRow : OpenClaim := { program := "ytjcgehnjhmnehaa", sum := "b858cd0faffff97b943ad3438ce27c27ed052508f5e7a50e890ee383027226ce", func := "loop.example/g03207/laws.FnExactLevelsOf", spec := "fnExactLevelsOf", apart := false, narrowed := true }
def FnExactLevelsOfUptoSaid : Prop := fnExactLevelsOfUptoRow.holds Try.pinned (OpenSpec.upto fnExactLevelsOfSpec)

/-- 'laws.FnExactApplyNetwork', WHERE WHAT IT READS IS OF BULK AT MOST 1048576: true; the input reads as it did. -/
def fnExactApplyNetworkUptoRow : OpenClaim := { program := "ytjcgehnjhmnehaa", sum := "b858cd0faffff97b943ad3438ce27c27ed052508f5e7a50e890ee383027226ce", func := "loop.example/g03207/laws.FnExactApplyNetwork", spec := "fnExactApplyNetwork", apart := false, narrowed := true }
def FnExactApplyNetworkUptoSaid : Prop := fnExactApplyNetworkUptoRow.holds Try.pinned (OpenSpec.upto fnExactApplyNetworkSpec)

/-- 'laws.FnExactPlaceNetwork', WHERE WHAT IT READS IS OF BULK AT MOST 1048576: true; the input reads as it did. -/
def fnExactPlaceNetworkUptoRow : OpenClaim := { program := "ytjcgehnjhmnehaa", sum := "b858cd0faffff97b943ad3438ce27c27ed052508f5e7a50e890ee383027226ce", func := "loop.example/g03207/laws.FnExactPlaceNetwork", spec := "fnExactPlaceNetwork", unfollowed := true, recurses := true, apart := false, narrowed := true }
def FnExactPlaceNetworkUptoSaid : Prop := fnExactPlaceNetworkUptoRow.holds Try.pinned (OpenSpec.upto fnExactPlaceNetworkSpec)

/-- 'laws.FnExactSortsOrder', WHERE WHAT IT READS IS OF BULK AT MOST 1048576: true; the input reads as it did. -/
def fnExactSortsOrderUptoRow : OpenClaim := { program := "ytjcgehnjhmnehaa", sum := "b858cd0faffff97b943ad3438ce27c27ed052508f5e7a50e890ee383027226ce", func := "loop.example/g03207/laws.FnExactSortsOrder", spec := "fnExactSortsOrder", apart := false, narrowed := true }
def FnExactSortsOrderUptoSaid : Prop := fnExactSortsOrderUptoRow.holds Try.pinned (OpenSpec.upto fnExactSortsOrderSpec)

/-- 'laws.FnExactUseOf', WHERE WHAT IT READS IS OF BULK AT MOST 1048576: true; the input reads as it did. -/
def fnExactUseOfUptoRow : OpenClaim := { program := "ytjcgehnjhmnehaa", sum := "b858cd0faffff97b943ad3438ce27c27ed052508f5e7a50e890ee383027226ce", func := "loop.example/g03207/laws.FnExactUseOf", spec := "fnExactUseOf", apart := false, narrowed := true }
def FnExactUseOfUptoSaid : Prop := fnExactUseOfUptoRow.holds Try.pinned (OpenSpec.upto fnExactUseOfSpec)

/-- 'laws.FnExactMirrorNetwork', WHERE WHAT IT READS IS OF BULK AT MOST 1048576: true; the input reads as it did. -/
def fnExactMirrorNetworkUptoRow : OpenClaim := { program := "ytjcgehnjhmnehaa", sum := "b858cd0faffff97b943ad3438ce27c27ed052508f5e7a50e890ee383027226ce", func := "loop.example/g03207/laws.FnExactMirrorNetwork", spec := "fnExactMirrorNetwork", unfollowed := true, recurses := true, apart := false, narrowed := true }
def FnExactMirrorNetworkUptoSaid : Prop := fnExactMirrorNetworkUptoRow.holds Try.pinned (OpenSpec.upto fnExactMirrorNetworkSpec)

/-- 'laws.FnExactSortsReverse', WHERE WHAT IT READS IS OF BULK AT MOST 1048576: true; the input reads as it did. -/
def fnExactSortsReverseUptoRow : OpenClaim := { program := "ytjcgehnjhmnehaa", sum := "b858cd0faffff97b943ad3438ce27c27ed052508f5e7a50e890ee383027226ce", func := "loop.example/g03207/laws.FnExactSortsReverse", spec := "fnExactSortsReverse", apart := false, narrowed := true }
def FnExactSortsReverseUptoSaid : Prop := fnExactSortsReverseUptoRow.holds Try.pinned (OpenSpec.upto fnExactSortsReverseSpec)

/-- 'laws.FnExactTurnNetwork', WHERE WHAT IT READS IS OF BULK AT MOST 1048576: true; the input reads as it did. -/
def fnExactTurnNetworkUptoRow : OpenClaim := { program := "ytjcgehnjhmnehaa", sum := "b858cd0faffff97b943ad3438ce27c27ed052508f5e7a50e890ee383027226ce", func := "loop.example/g03207/laws.FnExactTurnNetwork", spec := "fnExactTurnNetwork", apart := false, narrowed := true }
def FnExactTurnNetworkUptoSaid : Prop := fnExactTurnNetworkUptoRow.holds Try.pinned (OpenSpec.upto fnExactTurnNetworkSpec)

/-- 'laws.FnExactIdleOf', WHERE WHAT IT READS IS OF BULK AT MOST 1048576: true; the input reads as it did. -/
def fnExactIdleOfUptoRow : OpenClaim := { program := "ytjcgehnjhmnehaa", sum := "b858cd0faffff97b943ad3438ce27c27ed052508f5e7a50e890ee383027226ce", func := "loop.example/g03207/laws.FnExactIdleOf", spec := "fnExactIdleOf", apart := false, narrowed := true }
def FnExactIdleOfUptoSaid : Prop := fnExactIdleOfUptoRow.holds Try.pinned (OpenSpec.upto fnExactIdleOfSpec)

/-- 'laws.FnExactStandardOf', WHERE WHAT IT READS IS OF BULK AT MOST 1048576: true; the input reads as it did. -/
def fnExactStandardOfUptoRow : OpenClaim := { program := "ytjcgehnjhmnehaa", sum := "b858cd0faffff97b943ad3438ce27c27ed052508f5e7a50e890ee383027226ce", func := "loop.example/g03207/laws.FnExactStandardOf", spec := "fnExactStandardOf", apart := false, narrowed := true }
def FnExactStandardOfUptoSaid : Prop := fnExactStandardOfUptoRow.holds Try.pinned (OpenSpec.upto fnExactStandardOfSpec)

/-- 'laws.FnExactRenameWires', WHERE WHAT IT READS IS OF BULK AT MOST 1048576: true; the input reads as it did. -/
def fnExactRenameWiresUptoRow : OpenClaim := { program := "ytjcgehnjhmnehaa", sum := "b858cd0faffff97b943ad3438ce27c27ed052508f5e7a50e890ee383027226ce", func := "loop.example/g03207/laws.FnExactRenameWires", spec := "fnExactRenameWires", unfollowed := true, recurses := true, apart := false, narrowed := true }
def FnExactRenameWiresUptoSaid : Prop := fnExactRenameWiresUptoRow.holds Try.pinned (OpenSpec.upto fnExactRenameWiresSpec)

/-- 'laws.FnExactJoinNetworks', WHERE WHAT IT READS IS OF BULK AT MOST 1048576: true; the input reads as it did. -/
def fnExactJoinNetworksUptoRow : OpenClaim := { program := "ytjcgehnjhmnehaa", sum := "b858cd0faffff97b943ad3438ce27c27ed052508f5e7a50e890ee383027226ce", func := "loop.example/g03207/laws.FnExactJoinNetworks", spec := "fnExactJoinNetworks", apart := false, narrowed := true }
def FnExactJoinNetworksUptoSaid : Prop := fnExactJoinNetworksUptoRow.holds Try.pinned (OpenSpec.upto fnExactJoinNetworksSpec)

/-- 'laws.FnExactDropPair', WHERE WHAT IT READS IS OF BULK AT MOST 1048576: true; the input reads as it did. -/
def fnExactDropPairUptoRow : OpenClaim := { program := "ytjcgehnjhmnehaa", sum := "b858cd0faffff97b943ad3438ce27c27ed052508f5e7a50e890ee383027226ce", func := "loop.example/g03207/laws.FnExactDropPair", spec := "fnExactDropPair", apart := false, narrowed := true }
def FnExactDropPairUptoSaid : Prop := fnExactDropPairUptoRow.holds Try.pinned (OpenSpec.upto fnExactDropPairSpec)

/-- 'laws.FnExactCountUnsorted', WHERE WHAT IT READS IS OF BULK AT MOST 1048576: true; the input reads as it did. -/
def fnExactCountUnsortedUptoRow : OpenClaim := { program := "ytjcgehnjhmnehaa", sum := "b858cd0faffff97b943ad3438ce27c27ed052508f5e7a50e890ee383027226ce", func := "loop.example/g03207/laws.FnExactCountUnsorted", spec := "fnExactCountUnsorted", apart := false, narrowed := true }
def FnExactCountUnsortedUptoSaid : Prop := fnExactCountUnsortedUptoRow.holds Try.pinned (OpenSpec.upto fnExactCountUnsortedSpec)

/-- 'laws.FnExactWithoutIdle', WHERE WHAT IT READS IS OF BULK AT MOST 1048576: true; the input reads as it did. -/
def fnExactWithoutIdleUptoRow : OpenClaim := { program := "ytjcgehnjhmnehaa", sum := "b858cd0faffff97b943ad3438ce27c27ed052508f5e7a50e890ee383027226ce", func := "loop.example/g03207/laws.FnExactWithoutIdle", spec := "fnExactWithoutIdle", apart := false, narrowed := true }
def FnExactWithoutIdleUptoSaid : Prop := fnExactWithoutIdleUptoRow.holds Try.pinned (OpenSpec.upto fnExactWithoutIdleSpec)

/-- 'laws.FnExactFirstUnsorted', WHERE WHAT IT READS IS OF BULK AT MOST 1048576: true; the input reads as it did. -/
def fnExactFirstUnsortedUptoRow : OpenClaim := { program := "ytjcgehnjhmnehaa", sum := "b858cd0faffff97b943ad3438ce27c27ed052508f5e7a50e890ee383027226ce", func := "loop.example/g03207/laws.FnExactFirstUnsorted", spec := "fnExactFirstUnsorted", apart := false, narrowed := true }
def FnExactFirstUnsortedUptoSaid : Prop := fnExactFirstUnsortedUptoRow.holds Try.pinned (OpenSpec.upto fnExactFirstUnsortedSpec)

/-- 'laws.FnExactIsSorting', WHERE WHAT IT READS IS OF BULK AT MOST 1048576: true; the input reads as it did. -/
def fnExactIsSortingUptoRow : OpenClaim := { program := "ytjcgehnjhmnehaa", sum := "b858cd0faffff97b943ad3438ce27c27ed052508f5e7a50e890ee383027226ce", func := "loop.example/g03207/laws.FnExactIsSorting", spec := "fnExactIsSorting", apart := false, narrowed := true }
def FnExactIsSortingUptoSaid : Prop := fnExactIsSortingUptoRow.holds Try.pinned (OpenSpec.upto fnExactIsSortingSpec)

/-- 'laws.FnExactCutWire', WHERE WHAT IT READS IS OF BULK AT MOST 1048576: true; the input reads as it did. -/
def fnExactCutWireUptoRow : OpenClaim := { program := "ytjcgehnjhmnehaa", sum := "b858cd0faffff97b943ad3438ce27c27ed052508f5e7a50e890ee383027226ce", func := "loop.example/g03207/laws.FnExactCutWire", spec := "fnExactCutWire", unfollowed := true, recurses := true, apart := false, narrowed := true }
def FnExactCutWireUptoSaid : Prop := fnExactCutWireUptoRow.holds Try.pinned (OpenSpec.upto fnExactCutWireSpec)

/-- 'laws.FnExactIsNeeded', WHERE WHAT IT READS IS OF BULK AT MOST 1048576: true; the input reads as it did. -/
def fnExactIsNeededUptoRow : OpenClaim := { program := "ytjcgehnjhmnehaa", sum := "b858cd0faffff97b943ad3438ce27c27ed052508f5e7a50e890ee383027226ce", func := "loop.example/g03207/laws.FnExactIsNeeded", spec := "fnExactIsNeeded", apart := false, narrowed := true }
def FnExactIsNeededUptoSaid : Prop := fnExactIsNeededUptoRow.holds Try.pinned (OpenSpec.upto fnExactIsNeededSpec)

/-- 'laws.FnExactFailingList', WHERE WHAT IT READS IS OF BULK AT MOST 1048576: true; the input reads as it did. -/
def fnExactFailingListUptoRow : OpenClaim := { program := "ytjcgehnjhmnehaa", sum := "b858cd0faffff97b943ad3438ce27c27ed052508f5e7a50e890ee383027226ce", func := "loop.example/g03207/laws.FnExactFailingList", spec := "fnExactFailingList", apart := false, narrowed := true }
def FnExactFailingListUptoSaid : Prop := fnExactFailingListUptoRow.holds Try.pinned (OpenSpec.upto fnExactFailingListSpec)

/-- 'laws.FnExactByLevels', WHERE WHAT IT READS IS OF BULK AT MOST 1048576: true; the input reads as it did. -/
def fnExactByLevelsUptoRow : OpenClaim := { program := "ytjcgehnjhmnehaa", sum := "b858cd0faffff97b943ad3438ce27c27ed052508f5e7a50e890ee383027226ce", func := "loop.example/g03207/laws.FnExactByLevels", spec := "fnExactByLevels", unfollowed := true, recurses := true, apart := false, narrowed := true }
def FnExactByLevelsUptoSaid : Prop := fnExactByLevelsUptoRow.holds Try.pinned (OpenSpec.upto fnExactByLevelsSpec)

/-- 'laws.FnExactAfterPair', WHERE WHAT IT READS IS OF BULK AT MOST 1048576: true; the input reads as it did. -/
def fnExactAfterPairUptoRow : OpenClaim := { program := "ytjcgehnjhmnehaa", sum := "b858cd0faffff97b943ad3438ce27c27ed052508f5e7a50e890ee383027226ce", func := "loop.example/g03207/laws.FnExactAfterPair", spec := "fnExactAfterPair", unfollowed := true, recurses := true, apart := false, narrowed := true }
def FnExactAfterPairUptoSaid : Prop := fnExactAfterPairUptoRow.holds Try.pinned (OpenSpec.upto fnExactAfterPairSpec)

/-- 'laws.FnExactRenamedMasks', WHERE WHAT IT READS IS OF BULK AT MOST 1048576: true; the input reads as it did. -/
def fnExactRenamedMasksUptoRow : OpenClaim := { program := "ytjcgehnjhmnehaa", sum := "b858cd0faffff97b943ad3438ce27c27ed052508f5e7a50e890ee383027226ce", func := "loop.example/g03207/laws.FnExactRenamedMasks", spec := "fnExactRenamedMasks", unfollowed := true, recurses := true, apart := false, narrowed := true }
def FnExactRenamedMasksUptoSaid : Prop := fnExactRenamedMasksUptoRow.holds Try.pinned (OpenSpec.upto fnExactRenamedMasksSpec)

/-- 'laws.FnExactResultsOf', WHERE WHAT IT READS IS OF BULK AT MOST 1048576: true; the input reads as it did. -/
def fnExactResultsOfUptoRow : OpenClaim := { program := "ytjcgehnjhmnehaa", sum := "b858cd0faffff97b943ad3438ce27c27ed052508f5e7a50e890ee383027226ce", func := "loop.example/g03207/laws.FnExactResultsOf", spec := "fnExactResultsOf", unfollowed := true, recurses := true, apart := false, narrowed := true }
def FnExactResultsOfUptoSaid : Prop := fnExactResultsOfUptoRow.holds Try.pinned (OpenSpec.upto fnExactResultsOfSpec)

/-- 'laws.FnExactFitsInto', WHERE WHAT IT READS IS OF BULK AT MOST 1048576: true; the input reads as it did. -/
def fnExactFitsIntoUptoRow : OpenClaim := { program := "ytjcgehnjhmnehaa", sum := "b858cd0faffff97b943ad3438ce27c27ed052508f5e7a50e890ee383027226ce", func := "loop.example/g03207/laws.FnExactFitsInto", spec := "fnExactFitsInto", unfollowed := true, recurses := true, apart := false, narrowed := true }
def FnExactFitsIntoUptoSaid : Prop := fnExactFitsIntoUptoRow.holds Try.pinned (OpenSpec.upto fnExactFitsIntoSpec)

/-- 'laws.FnExactKnownOrder', WHERE WHAT IT READS IS OF BULK AT MOST 1048576: true; the input reads as it did. -/
def fnExactKnownOrderUptoRow : OpenClaim := { program := "ytjcgehnjhmnehaa", sum := "b858cd0faffff97b943ad3438ce27c27ed052508f5e7a50e890ee383027226ce", func := "loop.example/g03207/laws.FnExactKnownOrder", spec := "fnExactKnownOrder", unfollowed := true, recurses := true, apart := false, narrowed := true }
def FnExactKnownOrderUptoSaid : Prop := fnExactKnownOrderUptoRow.holds Try.pinned (OpenSpec.upto fnExactKnownOrderSpec)

/-- 'laws.FnResults', WHERE WHAT IT READS IS OF BULK AT MOST 1048576: true; the input reads as it did. -/
def fnResultsUptoRow : OpenClaim := { program := "ytjcgehnjhmnehaa", sum := "b858cd0faffff97b943ad3438ce27c27ed052508f5e7a50e890ee383027226ce", func := "loop.example/g03207/laws.FnResults", spec := "fnResults", unfollowed := true, recurses := true, apart := false, narrowed := true }
def FnResultsUptoSaid : Prop := fnResultsUptoRow.holds Try.pinned (OpenSpec.upto fnResultsSpec)

end Rows
end Go.Proofs.Ytjcgehnjhmnehaa
