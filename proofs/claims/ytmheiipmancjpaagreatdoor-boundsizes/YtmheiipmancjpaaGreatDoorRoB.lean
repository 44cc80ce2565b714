/- Proved here: the program's types are laid out as the row's form asks. By an AI agent. -/
import Derived.Test.YtmheiipmancjpaaGreatDoorRows
import Derived.JoinedOf
import Derived.KernelRfl
set_option linter.unusedVariables false
set_option linter.unusedSimpArgs false
set_option maxRecDepth 100000
namespace Go.Proofs.YtmheiipmancjpaaGreatDoor
open Go
theorem laidTypes : Tryz.prog.types.size = 800 := by kernel_rfl
theorem laidGlobals : Tryz.prog.globals.all (fun g => decide (g.type < Tryz.prog.types.size)) = true := by kernel_rfl
theorem laidFuncs : Tryz.prog.funcs.all (fun f => f.params.all fun t => decide (t < Tryz.prog.types.size)) = true := by rw [laidTypes]; kernel_rfl
theorem laidRows0 : (List.range' 0 40).all (rowFine Tryz.prog) = true := by kernel_rfl
theorem laidRows40 : (List.range' 40 40).all (rowFine Tryz.prog) = true := by kernel_rfl
theorem laidRows80 : (List.range' 80 40).all (rowFine Tryz.prog) = true := by kernel_rfl
theorem laidRows120 : (List.range' 120 40).all (rowFine Tryz.prog) = true := by kernel_rfl
theorem laidRows160 : (List.range' 160 40).all (rowFine Tryz.prog) = true := by kernel_rfl
theorem laidRows200 : (List.range' 200 40).all (rowFine Tryz.prog) = true := by kernel_rfl
theorem laidRows240 : (List.range' 240 40).all (rowFine Tryz.prog) = true := by kernel_rfl
theorem laidRows280 : (List.range' 280 40).all (rowFine Tryz.prog) = true := by kernel_rfl
theorem laidRows320 : (List.range' 320 40).all (rowFine Tryz.prog) = true := by kernel_rfl
theorem laidRows360 : (List.range' 360 40).all (rowFine Tryz.prog) = true := by kernel_rfl
theorem laidRows400 : (List.range' 400 40).all (rowFine Tryz.prog) = true := by kernel_rfl
theorem laidRows440 : (List.range' 440 40).all (rowFine Tryz.prog) = true := by kernel_rfl
theorem laidRows480 : (List.range' 480 40).all (rowFine Tryz.prog) = true := by kernel_rfl
theorem laidRows520 : (List.range' 520 40).all (rowFine Tryz.prog) = true := by kernel_rfl
theorem laidRows560 : (List.range' 560 40).all (rowFine Tryz.prog) = true := by kernel_rfl
theorem laidRows600 : (List.range' 600 40).all (rowFine Tryz.prog) = true := by kernel_rfl
theorem laidRows640 : (List.range' 640 40).all (rowFine Tryz.prog) = true := by kernel_rfl
theorem laidRows680 : (List.range' 680 40).all (rowFine Tryz.prog) = true := by kernel_rfl
theorem laidRows720 : (List.range' 720 40).all (rowFine Tryz.prog) = true := by kernel_rfl
theorem laidRows760 : (List.range' 760 40).all (rowFine Tryz.prog) = true := by kernel_rfl
theorem laidRange : List.range 800 = List.range' 0 40 ++ (List.range' 40 40 ++ (List.range' 80 40 ++ (List.range' 120 40 ++ (List.range' 160 40 ++ (List.range' 200 40 ++ (List.range' 240 40 ++ (List.range' 280 40 ++ (List.range' 320 40 ++ (List.range' 360 40 ++ (List.range' 400 40 ++ (List.range' 440 40 ++ (List.range' 480 40 ++ (List.range' 520 40 ++ (List.range' 560 40 ++ (List.range' 600 40 ++ (List.range' 640 40 ++ (List.range' 680 40 ++ (List.range' 720 40 ++ (List.range' 760 40))))))))))))))))))) := by kernel_rfl
theorem laidOut : laidOutB Tryz.prog = true := by
  unfold laidOutB
  rw [laidGlobals, laidFuncs, laidTypes, laidRange]
  simp only [List.all_append, Bool.and_true, laidRows0, laidRows40, laidRows80, laidRows120, laidRows160, laidRows200, laidRows240, laidRows280, laidRows320, laidRows360, laidRows400, laidRows440, laidRows480, laidRows520, laidRows560, laidRows600, laidRows640, laidRows680, laidRows720, laidRows760]
end Go.Proofs.YtmheiipmancjpaaGreatDoor
