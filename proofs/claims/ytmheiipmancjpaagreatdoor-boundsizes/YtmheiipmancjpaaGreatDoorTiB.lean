/- Proved here: how the listed variable is laid (for the tie). By an AI agent. -/
import Derived.Test.YtmheiipmancjpaaGreatDoorRows
import Derived.LaidByTextLater
import Derived.SevenTiedAt
import Derived.LaidSub
import Derived.LaidOnce
import Derived.KernelRfl
set_option linter.unusedVariables false
set_option linter.unusedSimpArgs false
set_option maxRecDepth 100000
namespace Go.Proofs.YtmheiipmancjpaaGreatDoor
open Go
theorem tieD : ([("estray/answer.letters", Rows.laid_estray_answer_letters)] : List (String × DataW Unit)).map (fun x => Tryz.prog.kindOfLater x.1) = [LaidKind.widerDeep].map some := by kernel_rfl
theorem tieE : (Tryz.prog.funcNamed "gosem.cut.vars").isSome = true := by kernel_rfl
theorem tieF : varsNamedLaterB Tryz.prog (varsId Tryz.prog) [("estray/answer.letters", Rows.laid_estray_answer_letters)] = true := by kernel_rfl
theorem tieH : Tryz.pinned.checked.prog.headLifts.contains "ownunsafe" = false := by kernel_rfl
end Go.Proofs.YtmheiipmancjpaaGreatDoor
