/- Proved here, by the kernel's run of the evaluator: small calls of the machine's Do in law 45's examples. By an AI agent. -/
import Derived.Test.YtmheiipmancjpaaGreatDoorAbN
set_option linter.unusedVariables false
set_option linter.unusedSimpArgs false
set_option linter.unusedVariables false
set_option maxRecDepth 100000
namespace Go.Abs
noncomputable section
theorem dd1_ok : dd1.check 1 (evQ V45 none45 4000) = true := by kernel_rfl
theorem dd2_ok : dd2.check 1 (evQ V45 none45 4000) = true := by kernel_rfl
theorem dd3_ok : dd3.check 1 (evQ V45 none45 4000) = true := by kernel_rfl
theorem dd4_ok : dd4.check 1 (evQ V45 none45 4000) = true := by kernel_rfl
theorem dd5_ok : dd5.check 1 (evQ V45 none45 4000) = true := by kernel_rfl
theorem dd6_ok : dd6.check 1 (evQ V45 none45 4000) = true := by kernel_rfl
theorem dd7_ok : dd7.check 1 (evQ V45 none45 4000) = true := by kernel_rfl
theorem dd8_ok : dd8.check 1 (evQ V45 none45 4000) = true := by kernel_rfl
theorem dd9_ok : dd9.check 1 (evQ V45 none45 4000) = true := by kernel_rfl
theorem dd10_ok : dd10.check 1 (evQ V45 none45 4000) = true := by kernel_rfl
theorem dd11_ok : dd11.check 1 (evQ V45 none45 4000) = true := by kernel_rfl
theorem dd12_ok : dd12.check 1 (evQ V45 none45 4000) = true := by kernel_rfl
end
end Go.Abs
