/- The shelf's contracts laid at this program. -/
import Derived.Shelf.SlSortCmp.Insertion1
import Derived.Test.YthcnmaapcniehaaProg
namespace Go.Proofs
open Go.Shelf
def Try.insF_ren : Go.Shelf.Ren := ⟨fun | 20 => 37 | n => n, fun | 24 => 3 | 22 => 35 | 3 => 3 | 25 => 42 | 4 => 4 | 0 => 0 | n => n, fun | n => n⟩
theorem Try.insF : Go.Proofs.SlLaysF.n20 Try.prog Try.insF_ren := {
  mixed := by kernel_rfl
  f20 := ⟨Try.f37.name, by decide, Try.func37.trans (congrArg some (by kernel_rfl))⟩
  t0 := Try.underlying0
  a0 := Try.isAgg0
  z0 := Try.sizeOf0
  v0 := Try.zeroValue0
  t3 := Try.underlying3
  a3 := Try.isAgg3
  z3 := Try.sizeOf3
  v3 := Try.zeroValue3
  t4 := Try.underlying4
  a4 := Try.isAgg4
  z4 := Try.sizeOf4
  v4 := Try.zeroValue4
  t22 := Try.underlying35
  a22 := Try.isAgg35
  z22 := Try.sizeOf35
  v22 := Try.zeroValue35
  a24 := Try.isAgg3
  z24 := Try.sizeOf3
  t25 := Try.underlying42
  a25 := Try.isAgg42
  z25 := Try.sizeOf42
  v25 := Try.zeroValue42 }
end Go.Proofs
