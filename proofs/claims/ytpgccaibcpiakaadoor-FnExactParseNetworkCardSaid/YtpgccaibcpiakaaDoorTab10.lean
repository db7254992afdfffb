/- The table of powers of ten, out of a row's condition. -/
import Derived.Test.YtpgccaibcpiakaaDoorRows
import Derived.Test.YtpgccaibcpiakaaDoorDoor
import Derived.Test.YtpgccaibcpiakaaDoorItoa
namespace Go.Proofs.YtpgccaibcpiakaaDoor
open Go.RowKit
set_option linter.unusedVariables false
theorem tab10_head {W : World} {rest : List (String × DataW Unit)} (h : laidMet Tryd.prog (("internal/strconv.uint64pow10", Rows.laid_internal_strconv_uint64pow10) :: rest) W) : Tab10 W := by
  have e : (Rows.laid_internal_strconv_uint64pow10 : DataW Unit) = Lib.tabData .u64 Lib.pow10Tab := by kernel_rfl
  rw [e] at h
  exact Lib.tabIs_of_head (g := 3) (t := 92) (e := 64) (n := 20) (by kernel_rfl) (by kernel_rfl) Tryd.underlying92 Tryd.underlying64 (by kernel_rfl) (by kernel_rfl) h
end Go.Proofs.YtpgccaibcpiakaaDoor
