/- Proved here, by the kernel's run of the evaluator at ranges of numbers: the constructors of the registry's parts make something new. By an AI agent. -/
import Derived.Test.YtmheiipmancjpaaGreatDoorAbN
set_option linter.unusedVariables false
set_option linter.unusedSimpArgs false
set_option linter.unusedVariables false
set_option maxRecDepth 100000
namespace Go.Abs
open Go.Proofs
noncomputable section
def tabS : FuncId → Array Value → AHeap → Option (Value × AHeap) := orTab (rule true 85 [(.i64, 1, 256), (.u32, 1, 4294967295)]) (orTab (rule true 92 [(.i64, 1, 256), (.u32, 1, 4294967295)]) (rule true 129 [(.i64, 1, 256)]))

theorem e41_1 : isMade true ((evQ V45 tabS 400).call 41 ⟨[(.complex .f32 1 256), (.int .i64 (.ofNat 1)), (.complex .f64 1 4294967295)]⟩ (heap0 1)) = true := by kernel_rfl
theorem e42_1 : isMade true ((evQ V45 tabS 400).call 42 ⟨[(.agg ⟨[(.complex .f32 1 256), (.int .i64 (.ofNat 1)), (.complex .f32 1 64), (.complex .f32 1 64), (.complex .f32 1 64), (.complex .f32 1 256), (.complex .f32 1 64), (.complex .f32 1 1048576), (.complex .f32 1 1048576), (.complex .f64 1 4294967295)]⟩)]⟩ (heap0 1)) = true := by kernel_rfl
theorem e49_1 : isMade true ((evQ V45 tabS 400).call 49 ⟨[(.complex .f32 1 256), (.int .i64 (.ofNat 1)), (.complex .f64 1 4294967295)]⟩ (heap0 1)) = true := by kernel_rfl
theorem e50_1 : isMade true ((evQ V45 tabS 400).call 50 ⟨[(.agg ⟨[(.complex .f32 1 256), (.int .i64 (.ofNat 1)), (.complex .f32 1 64), (.complex .f32 1 64), (.complex .f32 1 64), (.complex .f32 1 256), (.complex .f32 1 64), (.complex .f32 1 1048576), (.complex .f32 1 1048576), (.complex .f64 1 4294967295)]⟩)]⟩ (heap0 1)) = true := by kernel_rfl
theorem e41_2 : isMade true ((evQ V45 tabS 400).call 41 ⟨[(.complex .f32 1 256), (.int .i64 (.ofNat 2)), (.complex .f64 1 4294967295)]⟩ (heap0 1)) = true := by kernel_rfl
theorem e42_2 : isMade true ((evQ V45 tabS 400).call 42 ⟨[(.agg ⟨[(.complex .f32 1 256), (.int .i64 (.ofNat 2)), (.complex .f32 1 64), (.complex .f32 1 64), (.complex .f32 1 64), (.complex .f32 1 256), (.complex .f32 1 64), (.complex .f32 1 1048576), (.complex .f32 1 1048576), (.complex .f64 1 4294967295)]⟩)]⟩ (heap0 1)) = true := by kernel_rfl
theorem e49_2 : isMade true ((evQ V45 tabS 400).call 49 ⟨[(.complex .f32 1 256), (.int .i64 (.ofNat 2)), (.complex .f64 1 4294967295)]⟩ (heap0 1)) = true := by kernel_rfl
theorem e50_2 : isMade true ((evQ V45 tabS 400).call 50 ⟨[(.agg ⟨[(.complex .f32 1 256), (.int .i64 (.ofNat 2)), (.complex .f32 1 64), (.complex .f32 1 64), (.complex .f32 1 64), (.complex .f32 1 256), (.complex .f32 1 64), (.complex .f32 1 1048576), (.complex .f32 1 1048576), (.complex .f64 1 4294967295)]⟩)]⟩ (heap0 1)) = true := by kernel_rfl
theorem e41_3 : isMade true ((evQ V45 tabS 400).call 41 ⟨[(.complex .f32 1 256), (.int .i64 (.ofNat 3)), (.complex .f64 1 4294967295)]⟩ (heap0 1)) = true := by kernel_rfl
theorem e42_3 : isMade true ((evQ V45 tabS 400).call 42 ⟨[(.agg ⟨[(.complex .f32 1 256), (.int .i64 (.ofNat 3)), (.complex .f32 1 64), (.complex .f32 1 64), (.complex .f32 1 64), (.complex .f32 1 256), (.complex .f32 1 64), (.complex .f32 1 1048576), (.complex .f32 1 1048576), (.complex .f64 1 4294967295)]⟩)]⟩ (heap0 1)) = true := by kernel_rfl
theorem e49_3 : isMade true ((evQ V45 tabS 400).call 49 ⟨[(.complex .f32 1 256), (.int .i64 (.ofNat 3)), (.complex .f64 1 4294967295)]⟩ (heap0 1)) = true := by kernel_rfl
theorem e50_3 : isMade true ((evQ V45 tabS 400).call 50 ⟨[(.agg ⟨[(.complex .f32 1 256), (.int .i64 (.ofNat 3)), (.complex .f32 1 64), (.complex .f32 1 64), (.complex .f32 1 64), (.complex .f32 1 256), (.complex .f32 1 64), (.complex .f32 1 1048576), (.complex .f32 1 1048576), (.complex .f64 1 4294967295)]⟩)]⟩ (heap0 1)) = true := by kernel_rfl
theorem e41_4 : isMade true ((evQ V45 tabS 400).call 41 ⟨[(.complex .f32 1 256), (.int .i64 (.ofNat 4)), (.complex .f64 1 4294967295)]⟩ (heap0 1)) = true := by kernel_rfl
theorem e42_4 : isMade true ((evQ V45 tabS 400).call 42 ⟨[(.agg ⟨[(.complex .f32 1 256), (.int .i64 (.ofNat 4)), (.complex .f32 1 64), (.complex .f32 1 64), (.complex .f32 1 64), (.complex .f32 1 256), (.complex .f32 1 64), (.complex .f32 1 1048576), (.complex .f32 1 1048576), (.complex .f64 1 4294967295)]⟩)]⟩ (heap0 1)) = true := by kernel_rfl
theorem e49_4 : isMade true ((evQ V45 tabS 400).call 49 ⟨[(.complex .f32 1 256), (.int .i64 (.ofNat 4)), (.complex .f64 1 4294967295)]⟩ (heap0 1)) = true := by kernel_rfl
theorem e50_4 : isMade true ((evQ V45 tabS 400).call 50 ⟨[(.agg ⟨[(.complex .f32 1 256), (.int .i64 (.ofNat 4)), (.complex .f32 1 64), (.complex .f32 1 64), (.complex .f32 1 64), (.complex .f32 1 256), (.complex .f32 1 64), (.complex .f32 1 1048576), (.complex .f32 1 1048576), (.complex .f64 1 4294967295)]⟩)]⟩ (heap0 1)) = true := by kernel_rfl
theorem e43 : isMade true ((evQ V45 tabS 400).call 43 ⟨[(.int .i64 (.ofNat 256)), (.complex .f32 1 64)]⟩ (heap0 1)) = true := by kernel_rfl
theorem e44 : isMade true ((evQ V45 tabS 400).call 44 ⟨[(.int .i64 (.ofNat 256)), (.complex .f64 1 4294967295)]⟩ (heap0 1)) = true := by kernel_rfl
theorem e45 : isMade true ((evQ V45 tabS 400).call 45 ⟨[(.complex .f64 1 4294967295)]⟩ (heap0 1)) = true := by kernel_rfl
theorem e46 : isMade true ((evQ V45 tabS 400).call 46 ⟨[(.complex .f32 1 256)]⟩ (heap0 1)) = true := by kernel_rfl
theorem e40 : isMade false ((evQ V45 tabS 400).call 40 ⟨[]⟩ (heap0 1)) = true := by kernel_rfl
theorem e48 : isMade false ((evQ V45 tabS 400).call 48 ⟨[]⟩ (heap0 1)) = true := by kernel_rfl
theorem e51 : isMade true ((evQ V45 tabS 400).call 51 ⟨[(.int .i64 (.ofNat 256)), (.complex .f32 1 64)]⟩ (heap0 1)) = true := by kernel_rfl
theorem e52 : isMade true ((evQ V45 tabS 800).call 52 ⟨[(.int .i64 (.ofNat 256)), (.complex .f64 1 4294967295)]⟩ (heap0 1)) = true := by kernel_rfl
theorem e53 : isMade true ((evQ V45 tabS 800).call 53 ⟨[(.complex .f64 1 4294967295)]⟩ (heap0 1)) = true := by kernel_rfl
theorem e54 : isMade true ((evQ V45 tabS 400).call 54 ⟨[(.complex .f32 1 256)]⟩ (heap0 1)) = true := by kernel_rfl
end
end Go.Abs
