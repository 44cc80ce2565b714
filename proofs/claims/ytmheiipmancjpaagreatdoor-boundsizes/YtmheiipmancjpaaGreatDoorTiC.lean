/- Proved here: the door's run leaves the listed datum; the card's closed facts. By an AI agent. -/
import Derived.Test.YtmheiipmancjpaaGreatDoorRows
import Derived.LaidByTextLater
import Derived.SevenTiedAt
import Derived.LaidSub
import Derived.LaidOnce
import Derived.KernelRfl
set_option linter.unusedVariables false
set_option linter.unusedSimpArgs false
set_option maxRecDepth 100000
namespace Go.Proofs.YtmheiipmancjpaaGreatDoor
open Go
theorem tieG : ∀ os tape, doorLeaves Tryz.prog 14 8 5 [("estray/answer.letters", Rows.laid_estray_answer_letters)] os tape = some (([("estray/answer.letters", Rows.laid_estray_answer_letters)] : List (String × DataW Unit)).filter fun x => x.2.handleName?.isNone, (funcsListed [("estray/answer.letters", Rows.laid_estray_answer_letters)]).map (·.2.funcsOut)) := fun _ _ => by kernel_rfl
theorem cardA : Rows.boundSizesRow.wfByText (OpenSpec.ofChange Rows.boundSizesSpec) = true := by kernel_rfl
theorem cardB : Tryz.prog.mainIs = some (true, "072f5447606e57955bbb1d5b9a40780152a45f822ba1e6f1e5df7640b7f255f8".toList) := by kernel_rfl
theorem cardC : true = Tryz.prog.looks [] := by kernel_rfl
theorem cardD : ([23, 26, 3].all fun u => !Tryz.prog.wantsStandIn u) = true := by kernel_rfl
end Go.Proofs.YtmheiipmancjpaaGreatDoor
