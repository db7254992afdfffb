/- strconv's two errors, out of a row's condition. -/
import Derived.Test.YtpgccaibcpiakaaDoorRows
import Derived.Test.YtpgccaibcpiakaaDoorDoor
import Derived.Test.YtpgccaibcpiakaaDoorPInt2
namespace Go.Proofs.YtpgccaibcpiakaaDoor
open Go.RowKit
set_option linter.unusedVariables false
theorem starErr : "*" ++ "errors.errorString" = "*errors.errorString" := by decide
theorem rowErr (u : TypeId) (h : Tryd.prog.typeName? 3 u = some "*errors.errorString") : u = 80 :=
  typeName_ptr_named (nm := "errors.errorString") (by rw [starErr]; kernel_rfl) (by kernel_rfl) (by decide) u (by rw [starErr]; exact h)
theorem errV_head {W : World} {rest : List (String × DataW Unit)} (h : laidMet Tryd.prog (("strconv.ErrRange", Rows.laid_strconv_ErrRange) :: ("strconv.ErrSyntax", Rows.laid_strconv_ErrSyntax) :: rest) W) : ErrV W := by
  obtain ⟨a0, _, hv0, -, -, -⟩ := laid_sentinel h (g := 1) (by kernel_rfl) (by kernel_rfl) Tryd.underlying34 rowErr Tryd.underlying80 Tryd.underlying82 rfl rfl Tryd.underlying9 (by kernel_rfl) (by kernel_rfl)
  obtain ⟨a1, _, hv1, -, -, -⟩ := laid_sentinel h.tail (g := 0) (by kernel_rfl) (by kernel_rfl) Tryd.underlying34 rowErr Tryd.underlying80 Tryd.underlying82 rfl rfl Tryd.underlying9 (by kernel_rfl) (by kernel_rfl)
  exact ⟨⟨_, _, hv1⟩, ⟨_, _, hv0⟩⟩
end Go.Proofs.YtpgccaibcpiakaaDoor
