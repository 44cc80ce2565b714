/- Proved here: the row of BoundSizes. By an AI agent. -/
import Derived.Test.YtmheiipmancjpaaGreatDoorRoI
import Derived.Test.YtmheiipmancjpaaGreatDoorRoB
import Derived.Test.YtmheiipmancjpaaGreatDoorRoC
import Derived.Test.YtmheiipmancjpaaGreatDoorRoD
import Derived.Test.YtmheiipmancjpaaGreatDoorRoE
import Derived.Test.YtmheiipmancjpaaGreatDoorRoF
import Derived.Test.YtmheiipmancjpaaGreatDoorRoG
import Derived.Test.YtmheiipmancjpaaGreatDoorRoH
set_option linter.unusedVariables false
set_option linter.unusedSimpArgs false
set_option linter.unusedVariables false
set_option maxRecDepth 100000
namespace Go.Proofs.YtmheiipmancjpaaGreatDoor
open Go
theorem andb {a b : Bool} (ha : a = true) (hb : b = true) : (a && b) = true := by rw [ha, hb]; rfl
theorem boundSizes_closed : joinedFacts Tryz.prog 3 Tryz.f3 Rows.boundSizesSpec Rows.boundSizesRow = true := andb (andb (andb (andb (andb (andb (andb (andb (andb (andb (andb (andb (andb (andb (andb (andb (andb (andb (andb (andb (andb (andb (andb (andb (andb (andb (andb (andb (andb (andb (andb bsf0 laidOut) (bsf2)) (bsf3)) (bsf4)) (bsf5)) (bsf6)) (bsf7)) (bsf8)) (bsf9)) (bsf10)) (bsf11)) (bsf12)) (bsf13)) (bsf14)) (bsf15)) (bsf16)) (bsf17)) (bsf18)) (bsf19)) (bsf20)) (bsf21)) (bsf22)) (bsf23)) (bsf24)) (bsf25)) (bsf26)) (bsf27)) (bsf28)) (bsf29)) (bsf30)) (bsf31)
theorem boundSizes_named : Tryz.prog.funcNamed "estray/estraylaw45.BoundSizes" = some 3 := by kernel_rfl
theorem boundSizes_instance : Tryz.f3.isInstance Tryz.prog Rows.boundSizesRow.origin Rows.boundSizesRow.targs := of_decide_eq_true (by kernel_rfl)
theorem boundSizes_wrapper : Tryz.f3.isWrapper Tryz.prog Rows.boundSizesRow.wrapper Rows.boundSizesRow.mainSum := by
  unfold Func.isWrapper
  first | (rw [if_pos (by decide +kernel)]; kernel_rfl) | (rw [if_neg (by decide +kernel)]; exact ⟨rfl, rfl⟩)
theorem boundSizes_holds : Rows.BoundSizesSaid :=
  OpenClaim.holds_of_wide 3 Tryz.f3 rfl rfl rfl rfl rfl rfl rfl ⟨rfl, rfl, rfl, rfl, rfl⟩ rfl rfl rfl rfl rfl boundSizes_named Tryz.func3 boundSizes_closed
    boundSizes_instance boundSizes_wrapper (fun os started H enc _ => boundSizes_lifted os started H enc)
end Go.Proofs.YtmheiipmancjpaaGreatDoor
