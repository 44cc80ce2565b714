/- Proved here, by the kernel's run of the evaluator: law 45's examples answer true, whatever the element type of the letters' block. By an AI agent. -/
import Derived.Test.YtmheiipmancjpaaGreatDoorAbN
import Derived.Test.YtmheiipmancjpaaGreatDoorAbM
set_option linter.unusedVariables false
set_option linter.unusedSimpArgs false
set_option linter.unusedVariables false
set_option maxRecDepth 100000
namespace Go.Abs
noncomputable section
theorem works45 (e : TypeId) : isTrue ((evQ V45 tab3 4000).call 13 #[] (globsAt e)) = true := by kernel_rfl
end
end Go.Abs
