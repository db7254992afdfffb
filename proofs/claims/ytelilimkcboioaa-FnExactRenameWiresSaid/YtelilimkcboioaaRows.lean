/-
  No cell of these rows narrows 'for every input' (looked for: loops, veiled, ifaces, maps, wideKeys, modest, calm, conditions, laid).
  DERIVED. THE GIVEN ROWS OF THIS SEAT. 9 by the template 'for every input the law returns true; each argument reads behind the call as it read before'; 0 by the template 'total and deterministic' (their statements: YtelilimkcboioaaTotals.lean).
  GIVEN WITH THE SEED: the statements are not yours to turn. If you find one false, say at which input.
  Laid BY PROGRAM, IN A SANDBOX (cutbox-rows.mjs): the forced cells as the released guide's own fill.sh prints them over the translation 2fbf7c17c795520d… (all of the seat's roots in one cut). By AI agents, Wed Nov 11 2026. No macro, syntax, notation, axiom, sorry.
-/
import Derived.Test.YtelilimkcboioaaChecked
import GoSem.Claim
import GoSem.ClaimJoined
import GoSem.ClaimMapViews
import Derived.JoinedTies
import Derived.KernelRfl
namespace Go.Proofs.Ytelilimkcboioaa
/- THE CELL 'sum', in the pinned program and in every row, IS THE sha256 OF THE DUMP (.gsa) THAT YtelilimkcboioaaProg.lean LOADS. Nothing in Lean hashes anything: it is a label: what it is worth is what the hold of that sum in a sandbox is worth. -/
noncomputable def Try.pinned : Pinned := { name := "ytelilimkcboioaa", sum := "2fbf7c17c795520d2b49da6e22c6718f1f00a0b4f301f496fc2a1eb20139e1b1", checked := Try.checked }
namespace Rows
def none {H : Type} : Left H := { results := [], args := [] }

/-- 'laws.FnExactWithoutIdle': WHATEVER THE INPUT: true; the input reads as it did. -/
def fnExactWithoutIdleSpec : ChangeSpec := { name := "fnExactWithoutIdle", fn := fun _ => fun
  | [d] => { results := [.lit (.bool true)], args := [d] }
  | _ => none }
def fnExactWithoutIdleRow : OpenClaim := { program := "ytelilimkcboioaa", sum := "2fbf7c17c795520d2b49da6e22c6718f1f00a0b4f301f496fc2a1eb20139e1b1", func := "loop.example/g03207/laws.FnExactWithoutIdle", spec := "fnExactWithoutIdle", apart := false }
def FnExactWithoutIdleSaid : Prop := fnExactWithoutIdleRow.holds Try.pinned (OpenSpec.ofChange fnExactWithoutIdleSpec)

/-- ITS FALSE NEIGHBOUR: 'it returns false'. Refute it at one input. -/
def fnExactWithoutIdleWrong : ChangeSpec := { name := "fnExactWithoutIdle", fn := fun _ => fun
  | [d] => { results := [.lit (.bool false)], args := [d] }
  | _ => none }
def FnExactWithoutIdleWrongFalsely : Prop := fnExactWithoutIdleRow.holds Try.pinned (OpenSpec.ofChange fnExactWithoutIdleWrong)

/-- 'laws.FnExactDropPair': WHATEVER THE INPUT: true; the input reads as it did. -/
def fnExactDropPairSpec : ChangeSpec := { name := "fnExactDropPair", fn := fun _ => fun
  | [d1, d2] => { results := [.lit (.bool true)], args := [d1, d2] }
  | _ => none }
def fnExactDropPairRow : OpenClaim := { program := "ytelilimkcboioaa", sum := "2fbf7c17c795520d2b49da6e22c6718f1f00a0b4f301f496fc2a1eb20139e1b1", func := "loop.example/g03207/laws.FnExactDropPair", spec := "fnExactDropPair", apart := false }
def FnExactDropPairSaid : Prop := fnExactDropPairRow.holds Try.pinned (OpenSpec.ofChange fnExactDropPairSpec)

/-- ITS FALSE NEIGHBOUR: 'it returns false'. Refute it at one input. -/
def fnExactDropPairWrong : ChangeSpec := { name := "fnExactDropPair", fn := fun _ => fun
  | [d1, d2] => { results := [.lit (.bool false)], args := [d1, d2] }
  | _ => none }
def FnExactDropPairWrongFalsely : Prop := fnExactDropPairRow.holds Try.pinned (OpenSpec.ofChange fnExactDropPairWrong)

/-- 'laws.FnExactIsNeeded': WHATEVER THE INPUT: true; the input reads as it did. -/
def fnExactIsNeededSpec : ChangeSpec := { name := "fnExactIsNeeded", fn := fun _ => fun
  | [d1, d2] => { results := [.lit (.bool true)], args := [d1, d2] }
  | _ => none }
def fnExactIsNeededRow : OpenClaim := { program := "ytelilimkcboioaa", sum := "2fbf7c17c795520d2b49da6e22c6718f1f00a0b4f301f496fc2a1eb20139e1b1", func := "loop.example/g03207/laws.FnExactIsNeeded", spec := "fnExactIsNeeded", apart := false }
def FnExactIsNeededSaid : Prop := fnExactIsNeededRow.holds Try.pinned (OpenSpec.ofChange fnExactIsNeededSpec)

/-- ITS FALSE NEIGHBOUR: 'it returns false'. Refute it at one input. -/
def fnExactIsNeededWrong : ChangeSpec := { name := "fnExactIsNeeded", fn := fun _ => fun
  | [d1, d2] => { results := [.lit (.bool false)], args := [d1, d2] }
  | _ => none }
def FnExactIsNeededWrongFalsely : Prop := fnExactIsNeededRow.holds Try.pinned (OpenSpec.ofChange fnExactIsNeededWrong)

/-- 'laws.FnExactTurnNetwork': WHATEVER THE INPUT: true; the input reads as it did. -/
def fnExactTurnNetworkSpec : ChangeSpec := { name := "fnExactTurnNetwork", fn := fun _ => fun
  | [d] => { results := [.lit (.bool true)], args := [d] }
  | _ => none }
def fnExactTurnNetworkRow : OpenClaim := { program := "ytelilimkcboioaa", sum := "2fbf7c17c795520d2b49da6e22c6718f1f00a0b4f301f496fc2a1eb20139e1b1", func := "loop.example/g03207/laws.FnExactTurnNetwork", spec := "fnExactTurnNetwork", apart := false }
def FnExactTurnNetworkSaid : Prop := fnExactTurnNetworkRow.holds Try.pinned (OpenSpec.ofChange fnExactTurnNetworkSpec)

/-- ITS FALSE NEIGHBOUR: 'it returns false'. Refute it at one input. -/
def fnExactTurnNetworkWrong : ChangeSpec := { name := "fnExactTurnNetwork", fn := fun _ => fun
  | [d] => { results := [.lit (.bool false)], args := [d] }
  | _ => none }
def FnExactTurnNetworkWrongFalsely : Prop := fnExactTurnNetworkRow.holds Try.pinned (OpenSpec.ofChange fnExactTurnNetworkWrong)

/-- 'laws.FnExactJoinNetworks': WHATEVER THE INPUT: true; the input reads as it did. -/
def fnExactJoinNetworksSpec : ChangeSpec := { name := "fnExactJoinNetworks", fn := fun _ => fun
  | [d1, d2] => { results := [.lit (.bool true)], args := [d1, d2] }
  | _ => none }
def fnExactJoinNetworksRow : OpenClaim := { program := "ytelilimkcboioaa", sum := "2fbf7c17c795520d2b49da6e22c6718f1f00a0b4f301f496fc2a1eb20139e1b1", func := "loop.example/g03207/laws.FnExactJoinNetworks", spec := "fnExactJoinNetworks", apart := false }
def FnExactJoinNetworksSaid : Prop := fnExactJoinNetworksRow.holds Try.pinned (OpenSpec.ofChange fnExactJoinNetworksSpec)

/-- ITS FALSE NEIGHBOUR: 'it returns false'. Refute it at one input. -/
def fnExactJoinNetworksWrong : ChangeSpec := { name := "fnExactJoinNetworks", fn := fun _ => fun
  | [d1, d2] => { results := [.lit (.bool false)], args := [d1, d2] }
  | _ => none }
def FnExactJoinNetworksWrongFalsely : Prop := fnExactJoinNetworksRow.holds Try.pinned (OpenSpec.ofChange fnExactJoinNetworksWrong)

/-- 'laws.FnExactStandardOf': WHATEVER THE INPUT: true; the input reads as it did. -/
def fnExactStandardOfSpec : ChangeSpec := { name := "fnExactStandardOf", fn := fun _ => fun
  | [d] => { results := [.lit (.bool true)], args := [d] }
  | _ => none }
def fnExactStandardOfRow : OpenClaim := { program := "ytelilimkcboioaa", sum := "2fbf7c17c795520d2b49da6e22c6718f1f00a0b4f301f496fc2a1eb20139e1b1", func := "loop.example/g03207/laws.FnExactStandardOf", spec := "fnExactStandardOf", apart := false }
def FnExactStandardOfSaid : Prop := fnExactStandardOfRow.holds Try.pinned (OpenSpec.ofChange fnExactStandardOfSpec)

/-- ITS FALSE NEIGHBOUR: 'it returns false'. Refute it at one input. -/
def fnExactStandardOfWrong : ChangeSpec := { name := "fnExactStandardOf", fn := fun _ => fun
  | [d] => { results := [.lit (.bool false)], args := [d] }
  | _ => none }
def FnExactStandardOfWrongFalsely : Prop := fnExactStandardOfRow.holds Try.pinned (OpenSpec.ofChange fnExactStandardOfWrong)

/-- 'laws.FnExactPlaceNetwork': WHATEVER THE INPUT: true; the input reads as it did. -/
def fnExactPlaceNetworkSpec : ChangeSpec := { name := "fnExactPlaceNetwork", fn := fun _ => fun
  | [d1, d2, d3] => { results := [.lit (.bool true)], args := [d1, d2, d3] }
  | _ => none }
def fnExactPlaceNetworkRow : OpenClaim := { program := "ytelilimkcboioaa", sum := "2fbf7c17c795520d2b49da6e22c6718f1f00a0b4f301f496fc2a1eb20139e1b1", func := "loop.example/g03207/laws.FnExactPlaceNetwork", spec := "fnExactPlaceNetwork", unfollowed := true, recurses := true, apart := false }
def FnExactPlaceNetworkSaid : Prop := fnExactPlaceNetworkRow.holds Try.pinned (OpenSpec.ofChange fnExactPlaceNetworkSpec)

/-- ITS FALSE NEIGHBOUR: 'it returns false'. Refute it at one input. -/
def fnExactPlaceNetworkWrong : ChangeSpec := { name := "fnExactPlaceNetwork", fn := fun _ => fun
  | [d1, d2, d3] => { results := [.lit (.bool false)], args := [d1, d2, d3] }
  | _ => none }
def FnExactPlaceNetworkWrongFalsely : Prop := fnExactPlaceNetworkRow.holds Try.pinned (OpenSpec.ofChange fnExactPlaceNetworkWrong)

/-- 'laws.FnExactRenameWires': WHATEVER THE INPUT: true; the input reads as it did. -/
def fnExactRenameWiresSpec : ChangeSpec := { name := "fnExactRenameWires", fn := fun _ => fun
  | [d1, d2] => { results := [.lit (.bool true)], args := [d1, d2] }
  | _ => none }
def fnExactRenameWiresRow : OpenClaim := { program := "ytelilimkcboioaa", sum := "2fbf7c17c795520d2b49da6e22c6718f1f00a0b4f301f496fc2a1eb20139e1b1", func := "loop.example/g03207/laws.FnExactRenameWires", spec := "fnExactRenameWires", unfollowed := true, recurses := true, apart := false }
def FnExactRenameWiresSaid : Prop := fnExactRenameWiresRow.holds Try.pinned (OpenSpec.ofChange fnExactRenameWiresSpec)

/-- ITS FALSE NEIGHBOUR: 'it returns false'. Refute it at one input. -/
def fnExactRenameWiresWrong : ChangeSpec := { name := "fnExactRenameWires", fn := fun _ => fun
  | [d1, d2] => { results := [.lit (.bool false)], args := [d1, d2] }
  | _ => none }
def FnExactRenameWiresWrongFalsely : Prop := fnExactRenameWiresRow.holds Try.pinned (OpenSpec.ofChange fnExactRenameWiresWrong)

/-- 'laws.FnExactMirrorNetwork': WHATEVER THE INPUT: true; the input reads as it did. -/
def fnExactMirrorNetworkSpec : ChangeSpec := { name := "fnExactMirrorNetwork", fn := fun _ => fun
  | [d] => { results := [.lit (.bool true)], args := [d] }
  | _ => none }
def fnExactMirrorNetworkRow : OpenClaim := { program := "ytelilimkcboioaa", sum := "2fbf7c17c795520d2b49da6e22c6718f1f00a0b4f301f496fc2a1eb20139e1b1", func := "loop.example/g03207/laws.FnExactMirrorNetwork", spec := "fnExactMirrorNetwork", unfollowed := true, recurses := true, apart := false }
def FnExactMirrorNetworkSaid : Prop := fnExactMirrorNetworkRow.holds Try.pinned (OpenSpec.ofChange fnExactMirrorNetworkSpec)

/-- ITS FALSE NEIGHBOUR: 'it returns false'. Refute it at one input. -/
def fnExactMirrorNetworkWrong : ChangeSpec := { name := "fnExactMirrorNetwork", fn := fun _ => fun
  | [d] => { results := [.lit (.bool false)], args := [d] }
  | _ => none }
def FnExactMirrorNetworkWrongFalsely : Prop := fnExactMirrorNetworkRow.holds Try.pinned (OpenSpec.ofChange fnExactMirrorNetworkWrong)

/- THE SECOND FORM. 'bulk': how many values and letters a reading holds, each counted each time it is reached (what is shared counts as often as it is met; a slice's spare places count too). A statement '..UptoSaid' is the law's where the arguments, and the package variables that the reading takes, are together of bulk at most 1048576: NARROWER than '..Said'. Prove '..Said' where nothing that the law and all that it calls make is longer than what came in: it says more and counts as full. Else prove '..UptoSaid'. A law counts once. -/
mutual
def uptoBulk {H : Type} : DataW H → Nat
  | .lit (.string bytes) => bytes.length + 1
  | .lit _ => 1
  | .nil => 1
  | .ptr d => uptoBulk d + 1
  | .slice elems spare => uptoBulkAll elems + uptoBulkAll spare + 1
  | .agg parts => uptoBulkAll parts + 1
  | .iface _ d => uptoBulk d + 1
  | .map entries => uptoBulkEntries entries + 1
  | .held _ => 1
def uptoBulkAll {H : Type} : List (DataW H) → Nat
  | [] => 0
  | d :: r => uptoBulk d + uptoBulkAll r
def uptoBulkEntries {H : Type} : List (Lit × DataW H) → Nat
  | [] => 0
  | x :: r => uptoBulkEntry x + uptoBulkEntries r
def uptoBulkEntry {H : Type} : Lit × DataW H → Nat
  | (.string bytes, d) => bytes.length + uptoBulk d + 1
  | (_, d) => uptoBulk d + 1
 end
def uptoSmall : (H : Type) → List (DataW H) → Bool := fun _ ds => decide (uptoBulkAll ds ≤ 1048576)
def OpenSpec.upto (s : _root_.Go.ChangeSpec) : _root_.Go.OpenSpec := { _root_.Go.OpenSpec.ofChange s with cond := some uptoSmall }

/-- 'laws.FnExactWithoutIdle', WHERE WHAT IT READS IS OF BULK AT MOST 1048576: true; the input reads as it did. -/
def fnExactWithoutIdleUptoRow : OpenClaim := { program := "ytelilimkcboioaa", sum := "2fbf7c17c795520d2b49da6e22c6718f1f00a0b4f301f496fc2a1eb20139e1b1", func := "loop.example/g03207/laws.FnExactWithoutIdle", spec := "fnExactWithoutIdle", apart := false, narrowed := true }
def FnExactWithoutIdleUptoSaid : Prop := fnExactWithoutIdleUptoRow.holds Try.pinned (OpenSpec.upto fnExactWithoutIdleSpec)

/-- 'laws.FnExactDropPair', WHERE WHAT IT READS IS OF BULK AT MOST 1048576: true; the input reads as it did. -/
def fnExactDropPairUptoRow : OpenClaim := { program := "ytelilimkcboioaa", sum := "2fbf7c17c795520d2b49da6e22c6718f1f00a0b4f301f496fc2a1eb20139e1b1", func := "loop.example/g03207/laws.FnExactDropPair", spec := "fnExactDropPair", apart := false, narrowed := true }
def FnExactDropPairUptoSaid : Prop := fnExactDropPairUptoRow.holds Try.pinned (OpenSpec.upto fnExactDropPairSpec)

/-- 'laws.FnExactIsNeeded', WHERE WHAT IT READS IS OF BULK AT MOST 1048576: true; the input reads as it did. -/
def fnExactIsNeededUptoRow : OpenClaim := { program := "ytelilimkcboioaa", sum := "2fbf7c17c795520d2b49da6e22c6718f1f00a0b4f301f496fc2a1eb20139e1b1", func := "loop.example/g03207/laws.FnExactIsNeeded", spec := "fnExactIsNeeded", apart := false, narrowed := true }
def FnExactIsNeededUptoSaid : Prop := fnExactIsNeededUptoRow.holds Try.pinned (OpenSpec.upto fnExactIsNeededSpec)

/-- 'laws.FnExactTurnNetwork', WHERE WHAT IT READS IS OF BULK AT MOST 1048576: true; the input reads as it did. -/
def fnExactTurnNetworkUptoRow : OpenClaim := { program := "ytelilimkcboioaa", sum := "2fbf7c17c795520d2b49da6e22c6718f1f00a0b4f301f496fc2a1eb20139e1b1", func := "loop.example/g03207/laws.FnExactTurnNetwork", spec := "fnExactTurnNetwork", apart := false, narrowed := true }
def FnExactTurnNetworkUptoSaid : Prop := fnExactTurnNetworkUptoRow.holds Try.pinned (OpenSpec.upto fnExactTurnNetworkSpec)

/-- 'laws.FnExactJoinNetworks', WHERE WHAT IT READS IS OF BULK AT MOST 1048576: true; the input reads as it did. -/
def fnExactJoinNetworksUptoRow : OpenClaim := { program := "ytelilimkcboioaa", sum := "2fbf7c17c795520d2b49da6e22c6718f1f00a0b4f301f496fc2a1eb20139e1b1", func := "loop.example/g03207/laws.FnExactJoinNetworks", spec := "fnExactJoinNetworks", apart := false, narrowed := true }
def FnExactJoinNetworksUptoSaid : Prop := fnExactJoinNetworksUptoRow.holds Try.pinned (OpenSpec.upto fnExactJoinNetworksSpec)

/-- 'laws.FnExactStandardOf', WHERE WHAT IT READS IS OF BULK AT MOST 1048576: true; the input reads as it did. -/
def fnExactStandardOfUptoRow : OpenClaim := { program := "ytelilimkcboioaa", sum := "2fbf7c17c795520d2b49da6e22c6718f1f00a0b4f301f496fc2a1eb20139e1b1", func := "loop.example/g03207/laws.FnExactStandardOf", spec := "fnExactStandardOf", apart := false, narrowed := true }
def FnExactStandardOfUptoSaid : Prop := fnExactStandardOfUptoRow.holds Try.pinned (OpenSpec.upto fnExactStandardOfSpec)

/-- 'laws.FnExactPlaceNetwork', WHERE WHAT IT READS IS OF BULK AT MOST 1048576: true; the input reads as it did. -/
def fnExactPlaceNetworkUptoRow : OpenClaim := { program := "ytelilimkcboioaa", sum := "2fbf7c17c795520d2b49da6e22c6718f1f00a0b4f301f496fc2a1eb20139e1b1", func := "loop.example/g03207/laws.FnExactPlaceNetwork", spec := "fnExactPlaceNetwork", unfollowed := true, recurses := true, apart := false, narrowed := true }
def FnExactPlaceNetworkUptoSaid : Prop := fnExactPlaceNetworkUptoRow.holds Try.pinned (OpenSpec.upto fnExactPlaceNetworkSpec)

/-- 'laws.FnExactRenameWires', WHERE WHAT IT READS IS OF BULK AT MOST 1048576: true; the input reads as it did. -/
def fnExactRenameWiresUptoRow : OpenClaim := { program := "ytelilimkcboioaa", sum := "2fbf7c17c795520d2b49da6e22c6718f1f00a0b4f301f496fc2a1eb20139e1b1", func := "loop.example/g03207/laws.FnExactRenameWires", spec := "fnExactRenameWires", unfollowed := true, recurses := true, apart := false, narrowed := true }
def FnExactRenameWiresUptoSaid : Prop := fnExactRenameWiresUptoRow.holds Try.pinned (OpenSpec.upto fnExactRenameWiresSpec)

/-- 'laws.FnExactMirrorNetwork', WHERE WHAT IT READS IS OF BULK AT MOST 1048576: true; the input reads as it did. -/
def fnExactMirrorNetworkUptoRow : OpenClaim := { program := "ytelilimkcboioaa", sum := "2fbf7c17c795520d2b49da6e22c6718f1f00a0b4f301f496fc2a1eb20139e1b1", func := "loop.example/g03207/laws.FnExactMirrorNetwork", spec := "fnExactMirrorNetwork", unfollowed := true, recurses := true, apart := false, narrowed := true }
def FnExactMirrorNetworkUptoSaid : Prop := fnExactMirrorNetworkUptoRow.holds Try.pinned (OpenSpec.upto fnExactMirrorNetworkSpec)

end Rows
end Go.Proofs.Ytelilimkcboioaa
