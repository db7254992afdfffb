/- A network that comes in as an argument, opened: its number of wires, its slice of pairs. -/
import Derived.Test.YtpgccaibcpiakaaDoorBase
namespace Go.Proofs.YtpgccaibcpiakaaDoor
open Go.RowKit Go.ChangeShapes Go.WideShapes Go.Joins
set_option linter.unusedVariables false

end Go.Proofs.YtpgccaibcpiakaaDoor
