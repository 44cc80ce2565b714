/- Proved here: the row's closed facts (the light ones). By an AI agent. -/
import Derived.Test.YtmheiipmancjpaaGreatDoorRows
import Derived.JoinedOf
import Derived.KernelRfl
set_option linter.unusedVariables false
set_option linter.unusedSimpArgs false
set_option maxRecDepth 100000
namespace Go.Proofs.YtmheiipmancjpaaGreatDoor
open Go
theorem bsf0 : Rows.boundSizesRow.wf (OpenSpec.ofChange Rows.boundSizesSpec) = true := by kernel_rfl
theorem bsf3 : Tryz.f3.params.all (Tryz.prog.readableRec ·) = true := by kernel_rfl
theorem bsf4 : namedTie Tryz.prog Rows.boundSizesRow.named Rows.boundSizesSpec.vars = true := by kernel_rfl
theorem bsf5 : (Rows.boundSizesRow.stops == []) = true := by kernel_rfl
theorem bsf6 : (Tryz.prog.stops == []) = true := by kernel_rfl
theorem bsf7 : (Rows.boundSizesRow.knobs == []) = true := by kernel_rfl
theorem bsf8 : (Tryz.prog.stopKnobs == []) = true := by kernel_rfl
theorem bsf13 : (Rows.boundSizesRow.maps == (Tryz.f3.params.toList ++ Rows.boundSizesSpec.plain.varTypes Tryz.prog).any (Tryz.prog.mapsRec ·)) = true := by kernel_rfl
theorem bsf14 : (Rows.boundSizesRow.ifaces == (Tryz.f3.params.toList ++ Rows.boundSizesSpec.plain.varTypes Tryz.prog).any (Tryz.prog.ifacesRec ·)) = true := by kernel_rfl
theorem bsf15 : (Rows.boundSizesRow.mapsOut == Tryz.prog.mapsAmong Tryz.f3.resultTypes.toList) = true := by kernel_rfl
theorem bsf16 : (Rows.boundSizesRow.loops == (Tryz.f3.params.toList ++ Rows.boundSizesSpec.plain.varTypes Tryz.prog).any (Tryz.prog.loopsFrom ·)) = true := by kernel_rfl
theorem bsf17 : (Rows.boundSizesRow.wideKeys == (Tryz.f3.params.toList ++ Rows.boundSizesSpec.plain.varTypes Tryz.prog ++ Tryz.f3.resultTypes.toList).any (Tryz.prog.wideKeysFrom ·)) = true := by kernel_rfl
theorem bsf18 : Rows.boundSizesSpec.vars.all (Tryz.prog.varReadable ·) = true := by kernel_rfl
theorem bsf19 : Tryz.f3.resultTypes.all (fun t => Tryz.prog.readableRec t && decide (t < Tryz.prog.types.size)) = true := by kernel_rfl
theorem bsf20 : (Rows.boundSizesRow.ifacesOut == Tryz.f3.resultTypes.toList.any (Tryz.prog.ifacesRec ·)) = true := by kernel_rfl
theorem bsf21 : (Rows.boundSizesRow.loopsOut == Tryz.f3.resultTypes.toList.any (Tryz.prog.loopsFrom ·)) = true := by kernel_rfl
theorem bsf22 : (Rows.boundSizesRow.plainKeys == Tryz.prog.plainKeys) = true := by kernel_rfl
theorem bsf23 : Rows.boundSizesRow.shortTexts.isNone = true := by kernel_rfl
theorem bsf26 : (Rows.boundSizesRow.lifted == Tryz.prog.liftsFinal) = true := by kernel_rfl
theorem bsf27 : (Tryz.prog.make == some Rows.boundSizesRow.make) = true := by kernel_rfl
theorem bsf28 : (Rows.boundSizesRow.kinds == (if Rows.boundSizesRow.domain.isEmpty then [] else Tryz.f3.params.toList.map fun t => match Tryz.prog.underlying t with | some (.int k) => some k | _ => none)) = true := by kernel_rfl
theorem bsf29 : (Rows.boundSizesRow.pinned == Rows.boundSizesRow.pinnedBy) = true := by kernel_rfl
theorem bsf30 : (Rows.boundSizesRow.veiled == (Tryz.f3.params.toList ++ Rows.boundSizesSpec.plain.varTypes Tryz.prog ++ Tryz.f3.resultTypes.toList).any (Tryz.prog.veiledRec ·)) = true := by kernel_rfl
theorem bsf31 : Rows.boundSizesRow.veiledFits Tryz.prog Tryz.f3.params.toList (Tryz.f3.params.toList ++ Rows.boundSizesSpec.plain.varTypes Tryz.prog ++ Tryz.f3.resultTypes.toList) = true := by kernel_rfl
end Go.Proofs.YtmheiipmancjpaaGreatDoor
