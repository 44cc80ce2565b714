/- Proved here: the row's closed fact on the variables that are named. By an AI agent. -/
import Derived.Test.YtmheiipmancjpaaGreatDoorRows
import Derived.JoinedOf
import Derived.KernelRfl
set_option linter.unusedVariables false
set_option linter.unusedSimpArgs false
set_option maxRecDepth 100000
namespace Go.Proofs.YtmheiipmancjpaaGreatDoor
open Go
theorem bsf12 : (Rows.boundSizesRow.named == Tryz.prog.varsNamed 3) = true := by kernel_rfl
end Go.Proofs.YtmheiipmancjpaaGreatDoor
