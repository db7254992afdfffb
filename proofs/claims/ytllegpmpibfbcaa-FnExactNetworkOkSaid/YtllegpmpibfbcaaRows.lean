/-
  No cell of these rows narrows 'for every input' (looked for: loops, veiled, ifaces, maps, wideKeys, modest, calm, conditions, laid).
  DERIVED. THE GIVEN ROWS OF THIS SEAT. 12 by the template 'for every input the law returns true; each argument reads behind the call as it read before'; 0 by the template 'total and deterministic' (their statements: YtllegpmpibfbcaaTotals.lean).
  GIVEN WITH THE SEED: the statements are not yours to turn. If you find one false, say at which input.
  Laid BY PROGRAM, IN A SANDBOX (cutbox-rows.mjs): the forced cells as the released guide's own fill.sh prints them over the translation 66c85c9c7487297c… (all of the seat's roots in one cut). By AI agents, Wed Nov 11 2026. No macro, syntax, notation, axiom, sorry.
-/
import Derived.Test.YtllegpmpibfbcaaChecked
import GoSem.Claim
import GoSem.ClaimJoined
import GoSem.ClaimMapViews
import Derived.JoinedTies
import Derived.KernelRfl
namespace Go.Proofs.Ytllegpmpibfbcaa
/- THE CELL 'sum', in the pinned program and in every row, IS THE sha256 OF THE DUMP (.gsa) THAT YtllegpmpibfbcaaProg.lean LOADS. Nothing in Lean hashes anything: it is a label: what it is worth is what the hold of that sum in a sandbox is worth. -/
noncomputable def Try.pinned : Pinned := { name := "ytllegpmpibfbcaa", sum := "66c85c9c7487297c136b0de17d16b4651f3a023e383a7dcc36d15a79f830a27c", checked := Try.checked }
namespace Rows
def none {H : Type} : Left H := { results := [], args := [] }

/-- 'laws.FnExactConstants': WHATEVER THE INPUT: true; the input reads as it did. -/
def fnExactConstantsSpec : ChangeSpec := { name := "fnExactConstants", fn := fun _ => fun
  | [] => { results := [.lit (.bool true)], args := [] }
  | _ => none }
def fnExactConstantsRow : OpenClaim := { program := "ytllegpmpibfbcaa", sum := "66c85c9c7487297c136b0de17d16b4651f3a023e383a7dcc36d15a79f830a27c", func := "loop.example/g03207/laws.FnExactConstants", spec := "fnExactConstants", apart := false }
def FnExactConstantsSaid : Prop := fnExactConstantsRow.holds Try.pinned (OpenSpec.ofChange fnExactConstantsSpec)

/-- ITS FALSE NEIGHBOUR: 'it returns false'. Refute it at one input. -/
def fnExactConstantsWrong : ChangeSpec := { name := "fnExactConstants", fn := fun _ => fun
  | [] => { results := [.lit (.bool false)], args := [] }
  | _ => none }
def FnExactConstantsWrongFalsely : Prop := fnExactConstantsRow.holds Try.pinned (OpenSpec.ofChange fnExactConstantsWrong)

/-- 'laws.FnExactIsDigits': WHATEVER THE INPUT: true; the input reads as it did. -/
def fnExactIsDigitsSpec : ChangeSpec := { name := "fnExactIsDigits", fn := fun _ => fun
  | [d] => { results := [.lit (.bool true)], args := [d] }
  | _ => none }
def fnExactIsDigitsRow : OpenClaim := { program := "ytllegpmpibfbcaa", sum := "66c85c9c7487297c136b0de17d16b4651f3a023e383a7dcc36d15a79f830a27c", func := "loop.example/g03207/laws.FnExactIsDigits", spec := "fnExactIsDigits", apart := false }
def FnExactIsDigitsSaid : Prop := fnExactIsDigitsRow.holds Try.pinned (OpenSpec.ofChange fnExactIsDigitsSpec)

/-- ITS FALSE NEIGHBOUR: 'it returns false'. Refute it at one input. -/
def fnExactIsDigitsWrong : ChangeSpec := { name := "fnExactIsDigits", fn := fun _ => fun
  | [d] => { results := [.lit (.bool false)], args := [d] }
  | _ => none }
def FnExactIsDigitsWrongFalsely : Prop := fnExactIsDigitsRow.holds Try.pinned (OpenSpec.ofChange fnExactIsDigitsWrong)

/-- 'laws.FnExactCountUnsortedMasks': WHATEVER THE INPUT: true; the input reads as it did. -/
def fnExactCountUnsortedMasksSpec : ChangeSpec := { name := "fnExactCountUnsortedMasks", fn := fun _ => fun
  | [d] => { results := [.lit (.bool true)], args := [d] }
  | _ => none }
def fnExactCountUnsortedMasksRow : OpenClaim := { program := "ytllegpmpibfbcaa", sum := "66c85c9c7487297c136b0de17d16b4651f3a023e383a7dcc36d15a79f830a27c", func := "loop.example/g03207/laws.FnExactCountUnsortedMasks", spec := "fnExactCountUnsortedMasks", apart := false }
def FnExactCountUnsortedMasksSaid : Prop := fnExactCountUnsortedMasksRow.holds Try.pinned (OpenSpec.ofChange fnExactCountUnsortedMasksSpec)

/-- ITS FALSE NEIGHBOUR: 'it returns false'. Refute it at one input. -/
def fnExactCountUnsortedMasksWrong : ChangeSpec := { name := "fnExactCountUnsortedMasks", fn := fun _ => fun
  | [d] => { results := [.lit (.bool false)], args := [d] }
  | _ => none }
def FnExactCountUnsortedMasksWrongFalsely : Prop := fnExactCountUnsortedMasksRow.holds Try.pinned (OpenSpec.ofChange fnExactCountUnsortedMasksWrong)

/-- 'laws.FnExactIsName': WHATEVER THE INPUT: true; the input reads as it did. -/
def fnExactIsNameSpec : ChangeSpec := { name := "fnExactIsName", fn := fun _ => fun
  | [d] => { results := [.lit (.bool true)], args := [d] }
  | _ => none }
def fnExactIsNameRow : OpenClaim := { program := "ytllegpmpibfbcaa", sum := "66c85c9c7487297c136b0de17d16b4651f3a023e383a7dcc36d15a79f830a27c", func := "loop.example/g03207/laws.FnExactIsName", spec := "fnExactIsName", apart := false }
def FnExactIsNameSaid : Prop := fnExactIsNameRow.holds Try.pinned (OpenSpec.ofChange fnExactIsNameSpec)

/-- ITS FALSE NEIGHBOUR: 'it returns false'. Refute it at one input. -/
def fnExactIsNameWrong : ChangeSpec := { name := "fnExactIsName", fn := fun _ => fun
  | [d] => { results := [.lit (.bool false)], args := [d] }
  | _ => none }
def FnExactIsNameWrongFalsely : Prop := fnExactIsNameRow.holds Try.pinned (OpenSpec.ofChange fnExactIsNameWrong)

/-- 'laws.FnExactIsWithin': WHATEVER THE INPUT: true; the input reads as it did. -/
def fnExactIsWithinSpec : ChangeSpec := { name := "fnExactIsWithin", fn := fun _ => fun
  | [d1, d2] => { results := [.lit (.bool true)], args := [d1, d2] }
  | _ => none }
def fnExactIsWithinRow : OpenClaim := { program := "ytllegpmpibfbcaa", sum := "66c85c9c7487297c136b0de17d16b4651f3a023e383a7dcc36d15a79f830a27c", func := "loop.example/g03207/laws.FnExactIsWithin", spec := "fnExactIsWithin", apart := false }
def FnExactIsWithinSaid : Prop := fnExactIsWithinRow.holds Try.pinned (OpenSpec.ofChange fnExactIsWithinSpec)

/-- ITS FALSE NEIGHBOUR: 'it returns false'. Refute it at one input. -/
def fnExactIsWithinWrong : ChangeSpec := { name := "fnExactIsWithin", fn := fun _ => fun
  | [d1, d2] => { results := [.lit (.bool false)], args := [d1, d2] }
  | _ => none }
def FnExactIsWithinWrongFalsely : Prop := fnExactIsWithinRow.holds Try.pinned (OpenSpec.ofChange fnExactIsWithinWrong)

/-- 'laws.FnExactThresholdMask': WHATEVER THE INPUT: true; the input reads as it did. -/
def fnExactThresholdMaskSpec : ChangeSpec := { name := "fnExactThresholdMask", fn := fun _ => fun
  | [d1, d2] => { results := [.lit (.bool true)], args := [d1, d2] }
  | _ => none }
def fnExactThresholdMaskRow : OpenClaim := { program := "ytllegpmpibfbcaa", sum := "66c85c9c7487297c136b0de17d16b4651f3a023e383a7dcc36d15a79f830a27c", func := "loop.example/g03207/laws.FnExactThresholdMask", spec := "fnExactThresholdMask", apart := false }
def FnExactThresholdMaskSaid : Prop := fnExactThresholdMaskRow.holds Try.pinned (OpenSpec.ofChange fnExactThresholdMaskSpec)

/-- ITS FALSE NEIGHBOUR: 'it returns false'. Refute it at one input. -/
def fnExactThresholdMaskWrong : ChangeSpec := { name := "fnExactThresholdMask", fn := fun _ => fun
  | [d1, d2] => { results := [.lit (.bool false)], args := [d1, d2] }
  | _ => none }
def FnExactThresholdMaskWrongFalsely : Prop := fnExactThresholdMaskRow.holds Try.pinned (OpenSpec.ofChange fnExactThresholdMaskWrong)

/-- 'laws.FnExactMasksOk': WHATEVER THE INPUT: true; the input reads as it did. -/
def fnExactMasksOkSpec : ChangeSpec := { name := "fnExactMasksOk", fn := fun _ => fun
  | [d1, d2] => { results := [.lit (.bool true)], args := [d1, d2] }
  | _ => none }
def fnExactMasksOkRow : OpenClaim := { program := "ytllegpmpibfbcaa", sum := "66c85c9c7487297c136b0de17d16b4651f3a023e383a7dcc36d15a79f830a27c", func := "loop.example/g03207/laws.FnExactMasksOk", spec := "fnExactMasksOk", apart := false }
def FnExactMasksOkSaid : Prop := fnExactMasksOkRow.holds Try.pinned (OpenSpec.ofChange fnExactMasksOkSpec)

/-- ITS FALSE NEIGHBOUR: 'it returns false'. Refute it at one input. -/
def fnExactMasksOkWrong : ChangeSpec := { name := "fnExactMasksOk", fn := fun _ => fun
  | [d1, d2] => { results := [.lit (.bool false)], args := [d1, d2] }
  | _ => none }
def FnExactMasksOkWrongFalsely : Prop := fnExactMasksOkRow.holds Try.pinned (OpenSpec.ofChange fnExactMasksOkWrong)

/-- 'laws.FnExactAllMasks': WHATEVER THE INPUT: true; the input reads as it did. -/
def fnExactAllMasksSpec : ChangeSpec := { name := "fnExactAllMasks", fn := fun _ => fun
  | [d] => { results := [.lit (.bool true)], args := [d] }
  | _ => none }
def fnExactAllMasksRow : OpenClaim := { program := "ytllegpmpibfbcaa", sum := "66c85c9c7487297c136b0de17d16b4651f3a023e383a7dcc36d15a79f830a27c", func := "loop.example/g03207/laws.FnExactAllMasks", spec := "fnExactAllMasks", apart := false }
def FnExactAllMasksSaid : Prop := fnExactAllMasksRow.holds Try.pinned (OpenSpec.ofChange fnExactAllMasksSpec)

/-- ITS FALSE NEIGHBOUR: 'it returns false'. Refute it at one input. -/
def fnExactAllMasksWrong : ChangeSpec := { name := "fnExactAllMasks", fn := fun _ => fun
  | [d] => { results := [.lit (.bool false)], args := [d] }
  | _ => none }
def FnExactAllMasksWrongFalsely : Prop := fnExactAllMasksRow.holds Try.pinned (OpenSpec.ofChange fnExactAllMasksWrong)

/-- 'laws.FnExactSortedMask': WHATEVER THE INPUT: true; the input reads as it did. -/
def fnExactSortedMaskSpec : ChangeSpec := { name := "fnExactSortedMask", fn := fun _ => fun
  | [d1, d2] => { results := [.lit (.bool true)], args := [d1, d2] }
  | _ => none }
def fnExactSortedMaskRow : OpenClaim := { program := "ytllegpmpibfbcaa", sum := "66c85c9c7487297c136b0de17d16b4651f3a023e383a7dcc36d15a79f830a27c", func := "loop.example/g03207/laws.FnExactSortedMask", spec := "fnExactSortedMask", apart := false }
def FnExactSortedMaskSaid : Prop := fnExactSortedMaskRow.holds Try.pinned (OpenSpec.ofChange fnExactSortedMaskSpec)

/-- ITS FALSE NEIGHBOUR: 'it returns false'. Refute it at one input. -/
def fnExactSortedMaskWrong : ChangeSpec := { name := "fnExactSortedMask", fn := fun _ => fun
  | [d1, d2] => { results := [.lit (.bool false)], args := [d1, d2] }
  | _ => none }
def FnExactSortedMaskWrongFalsely : Prop := fnExactSortedMaskRow.holds Try.pinned (OpenSpec.ofChange fnExactSortedMaskWrong)

/-- 'laws.FnExactSplitAny': WHATEVER THE INPUT: true; the input reads as it did. -/
def fnExactSplitAnySpec : ChangeSpec := { name := "fnExactSplitAny", fn := fun _ => fun
  | [d1, d2] => { results := [.lit (.bool true)], args := [d1, d2] }
  | _ => none }
def fnExactSplitAnyRow : OpenClaim := { program := "ytllegpmpibfbcaa", sum := "66c85c9c7487297c136b0de17d16b4651f3a023e383a7dcc36d15a79f830a27c", func := "loop.example/g03207/laws.FnExactSplitAny", spec := "fnExactSplitAny", inPlace := ["internal/bytealg.IndexByteString"], apart := false }
def FnExactSplitAnySaid : Prop := fnExactSplitAnyRow.holds Try.pinned (OpenSpec.ofChange fnExactSplitAnySpec)

/-- ITS FALSE NEIGHBOUR: 'it returns false'. Refute it at one input. -/
def fnExactSplitAnyWrong : ChangeSpec := { name := "fnExactSplitAny", fn := fun _ => fun
  | [d1, d2] => { results := [.lit (.bool false)], args := [d1, d2] }
  | _ => none }
def FnExactSplitAnyWrongFalsely : Prop := fnExactSplitAnyRow.holds Try.pinned (OpenSpec.ofChange fnExactSplitAnyWrong)

/-- 'laws.FnExactIsSortedMask': WHATEVER THE INPUT: true; the input reads as it did. -/
def fnExactIsSortedMaskSpec : ChangeSpec := { name := "fnExactIsSortedMask", fn := fun _ => fun
  | [d1, d2] => { results := [.lit (.bool true)], args := [d1, d2] }
  | _ => none }
def fnExactIsSortedMaskRow : OpenClaim := { program := "ytllegpmpibfbcaa", sum := "66c85c9c7487297c136b0de17d16b4651f3a023e383a7dcc36d15a79f830a27c", func := "loop.example/g03207/laws.FnExactIsSortedMask", spec := "fnExactIsSortedMask", apart := false }
def FnExactIsSortedMaskSaid : Prop := fnExactIsSortedMaskRow.holds Try.pinned (OpenSpec.ofChange fnExactIsSortedMaskSpec)

/-- ITS FALSE NEIGHBOUR: 'it returns false'. Refute it at one input. -/
def fnExactIsSortedMaskWrong : ChangeSpec := { name := "fnExactIsSortedMask", fn := fun _ => fun
  | [d1, d2] => { results := [.lit (.bool false)], args := [d1, d2] }
  | _ => none }
def FnExactIsSortedMaskWrongFalsely : Prop := fnExactIsSortedMaskRow.holds Try.pinned (OpenSpec.ofChange fnExactIsSortedMaskWrong)

/-- 'laws.FnExactNetworkOk': WHATEVER THE INPUT: true; the input reads as it did. -/
def fnExactNetworkOkSpec : ChangeSpec := { name := "fnExactNetworkOk", fn := fun _ => fun
  | [d] => { results := [.lit (.bool true)], args := [d] }
  | _ => none }
def fnExactNetworkOkRow : OpenClaim := { program := "ytllegpmpibfbcaa", sum := "66c85c9c7487297c136b0de17d16b4651f3a023e383a7dcc36d15a79f830a27c", func := "loop.example/g03207/laws.FnExactNetworkOk", spec := "fnExactNetworkOk", apart := false }
def FnExactNetworkOkSaid : Prop := fnExactNetworkOkRow.holds Try.pinned (OpenSpec.ofChange fnExactNetworkOkSpec)

/-- ITS FALSE NEIGHBOUR: 'it returns false'. Refute it at one input. -/
def fnExactNetworkOkWrong : ChangeSpec := { name := "fnExactNetworkOk", fn := fun _ => fun
  | [d] => { results := [.lit (.bool false)], args := [d] }
  | _ => none }
def FnExactNetworkOkWrongFalsely : Prop := fnExactNetworkOkRow.holds Try.pinned (OpenSpec.ofChange fnExactNetworkOkWrong)

/- THE SECOND FORM. 'bulk': how many values and letters a reading holds, each counted each time it is reached (what is shared counts as often as it is met; a slice's spare places count too). A statement '..UptoSaid' is the law's where the arguments, and the package variables that the reading takes, are together of bulk at most 1048576: NARROWER than '..Said'. Prove '..Said' where nothing that the law and all that it calls make is longer than what came in: it says more and counts as full. Else prove '..UptoSaid'. A law counts once. -/
mutual
def uptoBulk {H : Type} : DataW H → Nat
  | .lit (.string bytes) => bytes.length + 1
  | .lit _ => 1
  | .nil => 1
  | .ptr d => uptoBulk d + 1
  | .slice elems spare => uptoBulkAll elems + uptoBulkAll spare + 1
  | .agg parts => uptoBulkAll parts + 1
  | .iface _ d => uptoBulk d + 1
  | .map entries => uptoBulkEntries entries + 1
  | .held _ => 1
def uptoBulkAll {H : Type} : List (DataW H) → Nat
  | [] => 0
  | d :: r => uptoBulk d + uptoBulkAll r
def uptoBulkEntries {H : Type} : List (Lit × DataW H) → Nat
  | [] => 0
  | x :: r => uptoBulkEntry x + uptoBulkEntries r
def uptoBulkEntry {H : Type} : Lit × DataW H → Nat
  | (.string bytes, d) => bytes.length + uptoBulk d + 1
  | (_, d) => uptoBulk d + 1
 end
def uptoSmall : (H : Type) → List (DataW H) → Bool := fun _ ds => decide (uptoBulkAll ds ≤ 1048576)
def OpenSpec.upto (s : _root_.Go.ChangeSpec) : _root_.Go.OpenSpec := { _root_.Go.OpenSpec.ofChange s with cond := some uptoSmall }

/-- 'laws.FnExactConstants', WHERE WHAT IT READS IS OF BULK AT MOST 1048576: true; the input reads as it did. -/
def fnExactConstantsUptoRow : OpenClaim := { program := "ytllegpmpibfbcaa", sum := "66c85c9c7487297c136b0de17d16b4651f3a023e383a7dcc36d15a79f830a27c", func := "loop.example/g03207/laws.FnExactConstants", spec := "fnExactConstants", apart := false, narrowed := true }
def FnExactConstantsUptoSaid : Prop := fnExactConstantsUptoRow.holds Try.pinned (OpenSpec.upto fnExactConstantsSpec)

/-- 'laws.FnExactIsDigits', WHERE WHAT IT READS IS OF BULK AT MOST 1048576: true; the input reads as it did. -/
def fnExactIsDigitsUptoRow : OpenClaim := { program := "ytllegpmpibfbcaa", sum := "66c85c9c7487297c136b0de17d16b4651f3a023e383a7dcc36d15a79f830a27c", func := "loop.example/g03207/laws.FnExactIsDigits", spec := "fnExactIsDigits", apart := false, narrowed := true }
def FnExactIsDigitsUptoSaid : Prop := fnExactIsDigitsUptoRow.holds Try.pinned (OpenSpec.upto fnExactIsDigitsSpec)

/-- 'laws.FnExactCountUnsortedMasks', WHERE WHAT IT READS IS OF BULK AT MOST 1048576: true; the input reads as it did. -/
def fnExactCountUnsortedMasksUptoRow : OpenClaim := { program := "ytllegpmpibfbcaa", sum := "66c85c9c7487297c136b0de17d16b4651f3a023e383a7dcc36d15a79f830a27c", func := "loop.example/g03207/laws.FnExactCountUnsortedMasks", spec := "fnExactCountUnsortedMasks", apart := false, narrowed := true }
def FnExactCountUnsortedMasksUptoSaid : Prop := fnExactCountUnsortedMasksUptoRow.holds Try.pinned (OpenSpec.upto fnExactCountUnsortedMasksSpec)

/-- 'laws.FnExactIsName', WHERE WHAT IT READS IS OF BULK AT MOST 1048576: true; the input reads as it did. -/
def fnExactIsNameUptoRow : OpenClaim := { program := "ytllegpmpibfbcaa", sum := "66c85c9c7487297c136b0de17d16b4651f3a023e383a7dcc36d15a79f830a27c", func := "loop.example/g03207/laws.FnExactIsName", spec := "fnExactIsName", apart := false, narrowed := true }
def FnExactIsNameUptoSaid : Prop := fnExactIsNameUptoRow.holds Try.pinned (OpenSpec.upto fnExactIsNameSpec)

/-- 'laws.FnExactIsWithin', WHERE WHAT IT READS IS OF BULK AT MOST 1048576: true; the input reads as it did. -/
def fnExactIsWithinUptoRow : OpenClaim := { program := "ytllegpmpibfbcaa", sum := "66c85c9c7487297c136b0de17d16b4651f3a023e383a7dcc36d15a79f830a27c", func := "loop.example/g03207/laws.FnExactIsWithin", spec := "fnExactIsWithin", apart := false, narrowed := true }
def FnExactIsWithinUptoSaid : Prop := fnExactIsWithinUptoRow.holds Try.pinned (OpenSpec.upto fnExactIsWithinSpec)

/-- 'laws.FnExactThresholdMask', WHERE WHAT IT READS IS OF BULK AT MOST 1048576: true; the input reads as it did. -/
def fnExactThresholdMaskUptoRow : OpenClaim := { program := "ytllegpmpibfbcaa", sum := "66c85c9c7487297c136b0de17d16b4651f3a023e383a7dcc36d15a79f830a27c", func := "loop.example/g03207/laws.FnExactThresholdMask", spec := "fnExactThresholdMask", apart := false, narrowed := true }
def FnExactThresholdMaskUptoSaid : Prop := fnExactThresholdMaskUptoRow.holds Try.pinned (OpenSpec.upto fnExactThresholdMaskSpec)

/-- 'laws.FnExactMasksOk', WHERE WHAT IT READS IS OF BULK AT MOST 1048576: true; the input reads as it did. -/
def fnExactMasksOkUptoRow : OpenClaim := { program := "ytllegpmpibfbcaa", sum := "66c85c9c7487297c136b0de17d16b4651f3a023e383a7dcc36d15a79f830a27c", func := "loop.example/g03207/laws.FnExactMasksOk", spec := "fnExactMasksOk", apart := false, narrowed := true }
def FnExactMasksOkUptoSaid : Prop := fnExactMasksOkUptoRow.holds Try.pinned (OpenSpec.upto fnExactMasksOkSpec)

/-- 'laws.FnExactAllMasks', WHERE WHAT IT READS IS OF BULK AT MOST 1048576: true; the input reads as it did. -/
def fnExactAllMasksUptoRow : OpenClaim := { program := "ytllegpmpibfbcaa", sum := "66c85c9c7487297c136b0de17d16b4651f3a023e383a7dcc36d15a79f830a27c", func := "loop.example/g03207/laws.FnExactAllMasks", spec := "fnExactAllMasks", apart := false, narrowed := true }
def FnExactAllMasksUptoSaid : Prop := fnExactAllMasksUptoRow.holds Try.pinned (OpenSpec.upto fnExactAllMasksSpec)

/-- 'laws.FnExactSortedMask', WHERE WHAT IT READS IS OF BULK AT MOST 1048576: true; the input reads as it did. -/
def fnExactSortedMaskUptoRow : OpenClaim := { program := "ytllegpmpibfbcaa", sum := "66c85c9c7487297c136b0de17d16b4651f3a023e383a7dcc36d15a79f830a27c", func := "loop.example/g03207/laws.FnExactSortedMask", spec := "fnExactSortedMask", apart := false, narrowed := true }
def FnExactSortedMaskUptoSaid : Prop := fnExactSortedMaskUptoRow.holds Try.pinned (OpenSpec.upto fnExactSortedMaskSpec)

/-- 'laws.FnExactSplitAny', WHERE WHAT IT READS IS OF BULK AT MOST 1048576: true; the input reads as it did. -/
def fnExactSplitAnyUptoRow : OpenClaim := { program := "ytllegpmpibfbcaa", sum := "66c85c9c7487297c136b0de17d16b4651f3a023e383a7dcc36d15a79f830a27c", func := "loop.example/g03207/laws.FnExactSplitAny", spec := "fnExactSplitAny", inPlace := ["internal/bytealg.IndexByteString"], apart := false, narrowed := true }
def FnExactSplitAnyUptoSaid : Prop := fnExactSplitAnyUptoRow.holds Try.pinned (OpenSpec.upto fnExactSplitAnySpec)

/-- 'laws.FnExactIsSortedMask', WHERE WHAT IT READS IS OF BULK AT MOST 1048576: true; the input reads as it did. -/
def fnExactIsSortedMaskUptoRow : OpenClaim := { program := "ytllegpmpibfbcaa", sum := "66c85c9c7487297c136b0de17d16b4651f3a023e383a7dcc36d15a79f830a27c", func := "loop.example/g03207/laws.FnExactIsSortedMask", spec := "fnExactIsSortedMask", apart := false, narrowed := true }
def FnExactIsSortedMaskUptoSaid : Prop := fnExactIsSortedMaskUptoRow.holds Try.pinned (OpenSpec.upto fnExactIsSortedMaskSpec)

/-- 'laws.FnExactNetworkOk', WHERE WHAT IT READS IS OF BULK AT MOST 1048576: true; the input reads as it did. -/
def fnExactNetworkOkUptoRow : OpenClaim := { program := "ytllegpmpibfbcaa", sum := "66c85c9c7487297c136b0de17d16b4651f3a023e383a7dcc36d15a79f830a27c", func := "loop.example/g03207/laws.FnExactNetworkOk", spec := "fnExactNetworkOk", apart := false, narrowed := true }
def FnExactNetworkOkUptoSaid : Prop := fnExactNetworkOkUptoRow.holds Try.pinned (OpenSpec.upto fnExactNetworkOkSpec)

end Rows
end Go.Proofs.Ytllegpmpibfbcaa
