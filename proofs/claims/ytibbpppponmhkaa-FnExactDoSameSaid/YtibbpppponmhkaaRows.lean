/-
  No cell of these rows narrows 'for every input' (looked for: loops, veiled, ifaces, maps, wideKeys, modest, calm, conditions, laid).
  DERIVED. THE GIVEN ROWS OF THIS SEAT. 8 by the template 'for every input the law returns true; each argument reads behind the call as it read before'; 0 by the template 'total and deterministic' (their statements: YtibbpppponmhkaaTotals.lean).
  GIVEN WITH THE SEED: the statements are not yours to turn. If you find one false, say at which input.
  Laid BY PROGRAM, IN A SANDBOX (cutbox-rows.mjs): the forced cells as the released guide's own fill.sh prints them over the translation ebfd23bba62cfe7c… (all of the seat's roots in one cut). By AI agents, Wed Nov 11 2026. No macro, syntax, notation, axiom, sorry.
-/
import Derived.Test.YtibbpppponmhkaaChecked
import GoSem.Claim
import GoSem.ClaimJoined
import GoSem.ClaimMapViews
import Derived.JoinedTies
import Derived.KernelRfl
namespace Go.Proofs.Ytibbpppponmhkaa
/- THE CELL 'sum', in the pinned program and in every row, IS THE sha256 OF THE DUMP (.gsa) THAT YtibbpppponmhkaaProg.lean LOADS. Nothing in Lean hashes anything: it is a label: what it is worth is what the hold of that sum in a sandbox is worth. -/
noncomputable def Try.pinned : Pinned := { name := "ytibbpppponmhkaa", sum := "ebfd23bba62cfe7c4c46ba6fc6e6ad01fce74e9c56b6c2172627f53a7534879d", checked := Try.checked }
namespace Rows
def none {H : Type} : Left H := { results := [], args := [] }

/-- 'laws.FnExactUseOf': WHATEVER THE INPUT: true; the input reads as it did. -/
def fnExactUseOfSpec : ChangeSpec := { name := "fnExactUseOf", fn := fun _ => fun
  | [d] => { results := [.lit (.bool true)], args := [d] }
  | _ => none }
def fnExactUseOfRow : OpenClaim := { program := "ytibbpppponmhkaa", sum := "ebfd23bba62cfe7c4c46ba6fc6e6ad01fce74e9c56b6c2172627f53a7534879d", func := "loop.example/g03207/laws.FnExactUseOf", spec := "fnExactUseOf", apart := false }
def FnExactUseOfSaid : Prop := fnExactUseOfRow.holds Try.pinned (OpenSpec.ofChange fnExactUseOfSpec)

/-- ITS FALSE NEIGHBOUR: 'it returns false'. Refute it at one input. -/
def fnExactUseOfWrong : ChangeSpec := { name := "fnExactUseOf", fn := fun _ => fun
  | [d] => { results := [.lit (.bool false)], args := [d] }
  | _ => none }
def FnExactUseOfWrongFalsely : Prop := fnExactUseOfRow.holds Try.pinned (OpenSpec.ofChange fnExactUseOfWrong)

/-- 'laws.FnExactIdleOf': WHATEVER THE INPUT: true; the input reads as it did. -/
def fnExactIdleOfSpec : ChangeSpec := { name := "fnExactIdleOf", fn := fun _ => fun
  | [d] => { results := [.lit (.bool true)], args := [d] }
  | _ => none }
def fnExactIdleOfRow : OpenClaim := { program := "ytibbpppponmhkaa", sum := "ebfd23bba62cfe7c4c46ba6fc6e6ad01fce74e9c56b6c2172627f53a7534879d", func := "loop.example/g03207/laws.FnExactIdleOf", spec := "fnExactIdleOf", apart := false }
def FnExactIdleOfSaid : Prop := fnExactIdleOfRow.holds Try.pinned (OpenSpec.ofChange fnExactIdleOfSpec)

/-- ITS FALSE NEIGHBOUR: 'it returns false'. Refute it at one input. -/
def fnExactIdleOfWrong : ChangeSpec := { name := "fnExactIdleOf", fn := fun _ => fun
  | [d] => { results := [.lit (.bool false)], args := [d] }
  | _ => none }
def FnExactIdleOfWrongFalsely : Prop := fnExactIdleOfRow.holds Try.pinned (OpenSpec.ofChange fnExactIdleOfWrong)

/-- 'laws.FnExactWithoutIdle': WHATEVER THE INPUT: true; the input reads as it did. -/
def fnExactWithoutIdleSpec : ChangeSpec := { name := "fnExactWithoutIdle", fn := fun _ => fun
  | [d] => { results := [.lit (.bool true)], args := [d] }
  | _ => none }
def fnExactWithoutIdleRow : OpenClaim := { program := "ytibbpppponmhkaa", sum := "ebfd23bba62cfe7c4c46ba6fc6e6ad01fce74e9c56b6c2172627f53a7534879d", func := "loop.example/g03207/laws.FnExactWithoutIdle", spec := "fnExactWithoutIdle", apart := false }
def FnExactWithoutIdleSaid : Prop := fnExactWithoutIdleRow.holds Try.pinned (OpenSpec.ofChange fnExactWithoutIdleSpec)

/-- ITS FALSE NEIGHBOUR: 'it returns false'. Refute it at one input. -/
def fnExactWithoutIdleWrong : ChangeSpec := { name := "fnExactWithoutIdle", fn := fun _ => fun
  | [d] => { results := [.lit (.bool false)], args := [d] }
  | _ => none }
def FnExactWithoutIdleWrongFalsely : Prop := fnExactWithoutIdleRow.holds Try.pinned (OpenSpec.ofChange fnExactWithoutIdleWrong)

/-- 'laws.FnExactDoSame': WHATEVER THE INPUT: true; the input reads as it did. -/
def fnExactDoSameSpec : ChangeSpec := { name := "fnExactDoSame", fn := fun _ => fun
  | [d1, d2] => { results := [.lit (.bool true)], args := [d1, d2] }
  | _ => none }
def fnExactDoSameRow : OpenClaim := { program := "ytibbpppponmhkaa", sum := "ebfd23bba62cfe7c4c46ba6fc6e6ad01fce74e9c56b6c2172627f53a7534879d", func := "loop.example/g03207/laws.FnExactDoSame", spec := "fnExactDoSame", apart := false }
def FnExactDoSameSaid : Prop := fnExactDoSameRow.holds Try.pinned (OpenSpec.ofChange fnExactDoSameSpec)

/-- ITS FALSE NEIGHBOUR: 'it returns false'. Refute it at one input. -/
def fnExactDoSameWrong : ChangeSpec := { name := "fnExactDoSame", fn := fun _ => fun
  | [d1, d2] => { results := [.lit (.bool false)], args := [d1, d2] }
  | _ => none }
def FnExactDoSameWrongFalsely : Prop := fnExactDoSameRow.holds Try.pinned (OpenSpec.ofChange fnExactDoSameWrong)

/-- 'laws.FnExactDropPair': WHATEVER THE INPUT: true; the input reads as it did. -/
def fnExactDropPairSpec : ChangeSpec := { name := "fnExactDropPair", fn := fun _ => fun
  | [d1, d2] => { results := [.lit (.bool true)], args := [d1, d2] }
  | _ => none }
def fnExactDropPairRow : OpenClaim := { program := "ytibbpppponmhkaa", sum := "ebfd23bba62cfe7c4c46ba6fc6e6ad01fce74e9c56b6c2172627f53a7534879d", func := "loop.example/g03207/laws.FnExactDropPair", spec := "fnExactDropPair", apart := false }
def FnExactDropPairSaid : Prop := fnExactDropPairRow.holds Try.pinned (OpenSpec.ofChange fnExactDropPairSpec)

/-- ITS FALSE NEIGHBOUR: 'it returns false'. Refute it at one input. -/
def fnExactDropPairWrong : ChangeSpec := { name := "fnExactDropPair", fn := fun _ => fun
  | [d1, d2] => { results := [.lit (.bool false)], args := [d1, d2] }
  | _ => none }
def FnExactDropPairWrongFalsely : Prop := fnExactDropPairRow.holds Try.pinned (OpenSpec.ofChange fnExactDropPairWrong)

/-- 'laws.FnExactIsNeeded': WHATEVER THE INPUT: true; the input reads as it did. -/
def fnExactIsNeededSpec : ChangeSpec := { name := "fnExactIsNeeded", fn := fun _ => fun
  | [d1, d2] => { results := [.lit (.bool true)], args := [d1, d2] }
  | _ => none }
def fnExactIsNeededRow : OpenClaim := { program := "ytibbpppponmhkaa", sum := "ebfd23bba62cfe7c4c46ba6fc6e6ad01fce74e9c56b6c2172627f53a7534879d", func := "loop.example/g03207/laws.FnExactIsNeeded", spec := "fnExactIsNeeded", apart := false }
def FnExactIsNeededSaid : Prop := fnExactIsNeededRow.holds Try.pinned (OpenSpec.ofChange fnExactIsNeededSpec)

/-- ITS FALSE NEIGHBOUR: 'it returns false'. Refute it at one input. -/
def fnExactIsNeededWrong : ChangeSpec := { name := "fnExactIsNeeded", fn := fun _ => fun
  | [d1, d2] => { results := [.lit (.bool false)], args := [d1, d2] }
  | _ => none }
def FnExactIsNeededWrongFalsely : Prop := fnExactIsNeededRow.holds Try.pinned (OpenSpec.ofChange fnExactIsNeededWrong)

/-- 'laws.FnExactTurnNetwork': WHATEVER THE INPUT: true; the input reads as it did. -/
def fnExactTurnNetworkSpec : ChangeSpec := { name := "fnExactTurnNetwork", fn := fun _ => fun
  | [d] => { results := [.lit (.bool true)], args := [d] }
  | _ => none }
def fnExactTurnNetworkRow : OpenClaim := { program := "ytibbpppponmhkaa", sum := "ebfd23bba62cfe7c4c46ba6fc6e6ad01fce74e9c56b6c2172627f53a7534879d", func := "loop.example/g03207/laws.FnExactTurnNetwork", spec := "fnExactTurnNetwork", apart := false }
def FnExactTurnNetworkSaid : Prop := fnExactTurnNetworkRow.holds Try.pinned (OpenSpec.ofChange fnExactTurnNetworkSpec)

/-- ITS FALSE NEIGHBOUR: 'it returns false'. Refute it at one input. -/
def fnExactTurnNetworkWrong : ChangeSpec := { name := "fnExactTurnNetwork", fn := fun _ => fun
  | [d] => { results := [.lit (.bool false)], args := [d] }
  | _ => none }
def FnExactTurnNetworkWrongFalsely : Prop := fnExactTurnNetworkRow.holds Try.pinned (OpenSpec.ofChange fnExactTurnNetworkWrong)

/-- 'laws.FnExactJoinNetworks': WHATEVER THE INPUT: true; the input reads as it did. -/
def fnExactJoinNetworksSpec : ChangeSpec := { name := "fnExactJoinNetworks", fn := fun _ => fun
  | [d1, d2] => { results := [.lit (.bool true)], args := [d1, d2] }
  | _ => none }
def fnExactJoinNetworksRow : OpenClaim := { program := "ytibbpppponmhkaa", sum := "ebfd23bba62cfe7c4c46ba6fc6e6ad01fce74e9c56b6c2172627f53a7534879d", func := "loop.example/g03207/laws.FnExactJoinNetworks", spec := "fnExactJoinNetworks", apart := false }
def FnExactJoinNetworksSaid : Prop := fnExactJoinNetworksRow.holds Try.pinned (OpenSpec.ofChange fnExactJoinNetworksSpec)

/-- ITS FALSE NEIGHBOUR: 'it returns false'. Refute it at one input. -/
def fnExactJoinNetworksWrong : ChangeSpec := { name := "fnExactJoinNetworks", fn := fun _ => fun
  | [d1, d2] => { results := [.lit (.bool false)], args := [d1, d2] }
  | _ => none }
def FnExactJoinNetworksWrongFalsely : Prop := fnExactJoinNetworksRow.holds Try.pinned (OpenSpec.ofChange fnExactJoinNetworksWrong)

/- THE SECOND FORM. 'bulk': how many values and letters a reading holds, each counted each time it is reached (what is shared counts as often as it is met; a slice's spare places count too). A statement '..UptoSaid' is the law's where the arguments, and the package variables that the reading takes, are together of bulk at most 1048576: NARROWER than '..Said'. Prove '..Said' where nothing that the law and all that it calls make is longer than what came in: it says more and counts as full. Else prove '..UptoSaid'. A law counts once. -/
mutual
def uptoBulk {H : Type} : DataW H → Nat
  | .lit (.string bytes) => bytes.length + 1
  | .lit _ => 1
  | .nil => 1
  | .ptr d => uptoBulk d + 1
  | .slice elems spare => uptoBulkAll elems + uptoBulkAll spare + 1
  | .agg parts => uptoBulkAll parts + 1
  | .iface _ d => uptoBulk d + 1
  | .map entries => uptoBulkEntries entries + 1
  | .held _ => 1
def uptoBulkAll {H : Type} : List (DataW H) → Nat
  | [] => 0
  | d :: r => uptoBulk d + uptoBulkAll r
def uptoBulkEntries {H : Type} : List (Lit × DataW H) → Nat
  | [] => 0
  | x :: r => uptoBulkEntry x + uptoBulkEntries r
def uptoBulkEntry {H : Type} : Lit × DataW H → Nat
  | (.string bytes, d) => bytes.length + uptoBulk d + 1
  | (_, d) => uptoBulk d + 1
 end
def uptoSmall : (H : Type) → List (DataW H) → Bool := fun _ ds => decide (uptoBulkAll ds ≤ 1048576)
def OpenSpec.upto (s : _root_.Go.ChangeSpec) : _root_.Go.OpenSpec := { _root_.Go.OpenSpec.ofChange s with cond := some uptoSmall }

/-- 'laws.FnExactUseOf', WHERE WHAT IT READS IS OF BULK AT MOST 1048576: true; the input reads as it did. -/
def fnExactUseOfUptoRow : OpenClaim := { program := "ytibbpppponmhkaa", sum := "ebfd23bba62cfe7c4c46ba6fc6e6ad01fce74e9c56b6c2172627f53a7534879d", func := "loop.example/g03207/laws.FnExactUseOf", spec := "fnExactUseOf", apart := false, narrowed := true }
def FnExactUseOfUptoSaid : Prop := fnExactUseOfUptoRow.holds Try.pinned (OpenSpec.upto fnExactUseOfSpec)

/-- 'laws.FnExactIdleOf', WHERE WHAT IT READS IS OF BULK AT MOST 1048576: true; the input reads as it did. -/
def fnExactIdleOfUptoRow : OpenClaim := { program := "ytibbpppponmhkaa", sum := "ebfd23bba62cfe7c4c46ba6fc6e6ad01fce74e9c56b6c2172627f53a7534879d", func := "loop.example/g03207/laws.FnExactIdleOf", spec := "fnExactIdleOf", apart := false, narrowed := true }
def FnExactIdleOfUptoSaid : Prop := fnExactIdleOfUptoRow.holds Try.pinned (OpenSpec.upto fnExactIdleOfSpec)

/-- 'laws.FnExactWithoutIdle', WHERE WHAT IT READS IS OF BULK AT MOST 1048576: true; the input reads as it did. -/
def fnExactWithoutIdleUptoRow : OpenClaim := { program := "ytibbpppponmhkaa", sum := "ebfd23bba62cfe7c4c46ba6fc6e6ad01fce74e9c56b6c2172627f53a7534879d", func := "loop.example/g03207/laws.FnExactWithoutIdle", spec := "fnExactWithoutIdle", apart := false, narrowed := true }
def FnExactWithoutIdleUptoSaid : Prop := fnExactWithoutIdleUptoRow.holds Try.pinned (OpenSpec.upto fnExactWithoutIdleSpec)

/-- 'laws.FnExactDoSame', WHERE WHAT IT READS IS OF BULK AT MOST 1048576: true; the input reads as it did. -/
def fnExactDoSameUptoRow : OpenClaim := { program := "ytibbpppponmhkaa", sum := "ebfd23bba62cfe7c4c46ba6fc6e6ad01fce74e9c56b6c2172627f53a7534879d", func := "loop.example/g03207/laws.FnExactDoSame", spec := "fnExactDoSame", apart := false, narrowed := true }
def FnExactDoSameUptoSaid : Prop := fnExactDoSameUptoRow.holds Try.pinned (OpenSpec.upto fnExactDoSameSpec)

/-- 'laws.FnExactDropPair', WHERE WHAT IT READS IS OF BULK AT MOST 1048576: true; the input reads as it did. -/
def fnExactDropPairUptoRow : OpenClaim := { program := "ytibbpppponmhkaa", sum := "ebfd23bba62cfe7c4c46ba6fc6e6ad01fce74e9c56b6c2172627f53a7534879d", func := "loop.example/g03207/laws.FnExactDropPair", spec := "fnExactDropPair", apart := false, narrowed := true }
def FnExactDropPairUptoSaid : Prop := fnExactDropPairUptoRow.holds Try.pinned (OpenSpec.upto fnExactDropPairSpec)

/-- 'laws.FnExactIsNeeded', WHERE WHAT IT READS IS OF BULK AT MOST 1048576: true; the input reads as it did. -/
def fnExactIsNeededUptoRow : OpenClaim := { program := "ytibbpppponmhkaa", sum := "ebfd23bba62cfe7c4c46ba6fc6e6ad01fce74e9c56b6c2172627f53a7534879d", func := "loop.example/g03207/laws.FnExactIsNeeded", spec := "fnExactIsNeeded", apart := false, narrowed := true }
def FnExactIsNeededUptoSaid : Prop := fnExactIsNeededUptoRow.holds Try.pinned (OpenSpec.upto fnExactIsNeededSpec)

/-- 'laws.FnExactTurnNetwork', WHERE WHAT IT READS IS OF BULK AT MOST 1048576: true; the input reads as it did. -/
def fnExactTurnNetworkUptoRow : OpenClaim := { program := "ytibbpppponmhkaa", sum := "ebfd23bba62cfe7c4c46ba6fc6e6ad01fce74e9c56b6c2172627f53a7534879d", func := "loop.example/g03207/laws.FnExactTurnNetwork", spec := "fnExactTurnNetwork", apart := false, narrowed := true }
def FnExactTurnNetworkUptoSaid : Prop := fnExactTurnNetworkUptoRow.holds Try.pinned (OpenSpec.upto fnExactTurnNetworkSpec)

/-- 'laws.FnExactJoinNetworks', WHERE WHAT IT READS IS OF BULK AT MOST 1048576: true; the input reads as it did. -/
def fnExactJoinNetworksUptoRow : OpenClaim := { program := "ytibbpppponmhkaa", sum := "ebfd23bba62cfe7c4c46ba6fc6e6ad01fce74e9c56b6c2172627f53a7534879d", func := "loop.example/g03207/laws.FnExactJoinNetworks", spec := "fnExactJoinNetworks", apart := false, narrowed := true }
def FnExactJoinNetworksUptoSaid : Prop := fnExactJoinNetworksUptoRow.holds Try.pinned (OpenSpec.upto fnExactJoinNetworksSpec)

end Rows
end Go.Proofs.Ytibbpppponmhkaa
