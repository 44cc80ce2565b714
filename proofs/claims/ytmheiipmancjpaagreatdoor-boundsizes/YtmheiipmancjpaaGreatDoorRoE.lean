/- Proved here: the row's closed fact on what is done in place. By an AI agent. -/
import Derived.Test.YtmheiipmancjpaaGreatDoorRows
import Derived.JoinedOf
import Derived.KernelRfl
set_option linter.unusedVariables false
set_option linter.unusedSimpArgs false
set_option maxRecDepth 100000
namespace Go.Proofs.YtmheiipmancjpaaGreatDoor
open Go
theorem bsf9 : (Rows.boundSizesRow.inPlace == Tryz.prog.inPlace 3) = true := by kernel_rfl
end Go.Proofs.YtmheiipmancjpaaGreatDoor
