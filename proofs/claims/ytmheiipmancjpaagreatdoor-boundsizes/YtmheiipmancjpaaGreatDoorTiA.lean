/- Proved here: the words of the translator's looks (for the tie). By an AI agent. -/
import Derived.Test.YtmheiipmancjpaaGreatDoorRows
import Derived.LaidByTextLater
import Derived.SevenTiedAt
import Derived.LaidSub
import Derived.LaidOnce
import Derived.KernelRfl
set_option linter.unusedVariables false
set_option linter.unusedSimpArgs false
set_option maxRecDepth 100000
namespace Go.Proofs.YtmheiipmancjpaaGreatDoor
open Go
theorem tieA : Tryz.prog.worded (varsWordLater true) = true := by kernel_rfl
theorem tieB : Tryz.prog.worded (varsWordLater false) = false := by kernel_rfl
theorem tieC : Tryz.prog.worded rootWordLater = true := by kernel_rfl
end Go.Proofs.YtmheiipmancjpaaGreatDoor
