/- Proved here, by the kernel's run of the evaluator: the second call of bound.Release in law 45's examples. By an AI agent. -/
import Derived.Test.YtmheiipmancjpaaGreatDoorAbN
set_option linter.unusedVariables false
set_option linter.unusedSimpArgs false
set_option linter.unusedVariables false
set_option maxRecDepth 100000
namespace Go.Abs
noncomputable section
theorem dr1_ok : dr1.check 1 (evQ V45 tab2 4000) = true := by kernel_rfl
end
end Go.Abs
