/- Closed facts of the loaded program: what its types are, how many cells they take. -/
import Derived.Test.YthcnmaapcniehaaChecked
import Derived.Test.YthcnmaapcniehaaMem
import Derived.KernelRfl
namespace Go.Proofs.Ythcnmaapcniehaa
open Go.RowKit
set_option linter.unusedVariables false

theorem own : ownKnob Try.prog.godebug = none := by kernel_rfl
theorem laidOut : laidOutB Try.prog = true := by kernel_rfl
theorem cellsInt : Try.prog.cellsOf 3 = 1 := by kernel_rfl
theorem infoInt : (Try.prog.info? 3).map (fun i => (i.zero, i.size, i.bytes)) = some (some (.int .i64 0), 1, 8) := by kernel_rfl
abbrev tInt : TypeId := 3
theorem cellsInts : Try.prog.cellsOf 35 = 1 := by kernel_rfl
theorem infoInts : (Try.prog.info? 35).map (fun i => (i.zero, i.size, i.bytes)) = some (some (.slice none 0 0), 1, 24) := by kernel_rfl
abbrev tInts : TypeId := 35
theorem cellsStr : Try.prog.cellsOf 9 = 1 := by kernel_rfl
theorem infoStr : (Try.prog.info? 9).map (fun i => (i.zero, i.size, i.bytes)) = some (some (.string ByteArray.empty), 1, 16) := by kernel_rfl
abbrev tStr : TypeId := 9
theorem cellsIntss : Try.prog.cellsOf 22 = 1 := by kernel_rfl
abbrev tIntss : TypeId := 22
theorem infoBool : (Try.prog.info? 4).map (fun i => (i.zero, i.size, i.bytes)) = some (some (.bool false), 1, 1) := by kernel_rfl
abbrev tBool : TypeId := 4

/-- A fresh slice of integers comes back; nothing that was there has turned. -/
def GivesI (w : World) (xs : List Int) (en : Ending) (w' : World) : Prop := ∃ v, en = .returned v ∧ OwnI tInt w' w.heap.size w'.heap.size v xs ∧ Below w.heap.size w w'

/-- A truth value comes back; nothing that was there has turned. -/
def GivesB (w : World) (b : Bool) (en : Ending) (w' : World) : Prop := en = .returned (.bool b) ∧ Below w.heap.size w w'
/-- A number comes back; nothing that was there has turned. -/
def GivesN (w : World) (n : Int) (en : Ending) (w' : World) : Prop := en = .returned (.int .i64 n) ∧ Below w.heap.size w w'

end Go.Proofs.Ythcnmaapcniehaa
