/- Proved here: the row's closed facts (three heavier ones). By an AI agent. -/
import Derived.Test.YtmheiipmancjpaaGreatDoorRows
import Derived.JoinedOf
import Derived.KernelRfl
set_option linter.unusedVariables false
set_option linter.unusedSimpArgs false
set_option maxRecDepth 100000
namespace Go.Proofs.YtmheiipmancjpaaGreatDoor
open Go
theorem bsf2 : mapsRowed Tryz.prog = true := by kernel_rfl
theorem bsf24 : Tryz.prog.stopsHeard = true := by kernel_rfl
theorem bsf25 : Tryz.prog.mayEnter = true := by kernel_rfl
end Go.Proofs.YtmheiipmancjpaaGreatDoor
