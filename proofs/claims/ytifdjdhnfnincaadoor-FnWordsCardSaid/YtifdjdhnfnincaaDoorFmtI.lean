/- Contracts: FormatInt, the reference's. -/
import Derived.Test.YtifdjdhnfnincaaDoorBase
import Derived.Test.YtifdjdhnfnincaaDoorDec
import Derived.Deep.RegionWith
import Derived.Outline
import Derived.Laws.BytesArg
namespace Go.Proofs.YtifdjdhnfnincaaDoor
open Go.RowKit
set_option linter.unusedVariables false

/-- A text comes back; nothing that was there has turned. -/
def GivesT (w : World) (s : ByteArray) (en : Ending) (w' : World) : Prop := en = .returned (.string s) ∧ Below w.heap.size w w'
theorem bytes_eq {s t : ByteArray} (h : s.data.toList = t.data.toList) : s = t := by
  cases s; cases t; congr 1; exact Array.toList_inj.1 h
theorem ret_str {s t : ByteArray} (h : s = t) : Ending.returned (.string s) = .returned (.string t) := by rw [h]
/-- The numeral as a text. -/
def itoaB (n : Int) : ByteArray := ⟨(Lib.itoa n).toArray⟩
theorem itoaB_list (n : Int) : (itoaB n).data.toList = Lib.itoa n := rfl
theorem convB (W : World) (g : Nat) (x : Int) (c : UInt8) (hx : x = (c.toNat : Int)) (hc : W.cell? ⟨g, 0, none⟩ = some (.int .u8 x)) :
    (convert 22 9 (.slice (some ⟨g, 0, none⟩) 1 1)).run Tryd.prog W = .ok (.string ⟨#[c]⟩) W := by
  subst hx
  exact run_convert_bytes_back W 22 9 5 ⟨g, 0, none⟩ 1 [c] Tryd.underlying22 Tryd.underlying5 Tryd.underlying9 (fun j hj => by
    have : j = 0 := by simpa using hj
    subst this
    simpa [Addr.add] using hc)

/-- The byte of a digit. -/
def dgC (k : Nat) : UInt8 := UInt8.ofNat (48 + k)
theorem dgC_nat {k : Nat} (h : k < 10) : ((dgC k).toNat : Int) = 48 + (k : Int) := by unfold dgC; rw [dg_toNat k h]; omega
theorem one_size (c : UInt8) (t : ByteArray) : ((⟨#[c]⟩ : ByteArray) ++ t).size = 1 + t.size := by rw [ByteArray.size_append]; rfl

end Go.Proofs.YtifdjdhnfnincaaDoor
