/- Proved here: THE TIED CARD OF BoundSizes. By an AI agent. -/
import Derived.Test.YtmheiipmancjpaaGreatDoorRows
import Derived.SevenTiedAt
import Derived.KernelRfl
import Derived.Test.YtmheiipmancjpaaGreatDoorRoJ
import Derived.Test.YtmheiipmancjpaaGreatDoorTiA
import Derived.Test.YtmheiipmancjpaaGreatDoorTiB
import Derived.Test.YtmheiipmancjpaaGreatDoorTiC
import Derived.Test.YtmheiipmancjpaaGreatDoorCards
set_option linter.unusedVariables false
set_option linter.unusedSimpArgs false
section
set_option maxRecDepth 100000
namespace Go.Proofs.YtmheiipmancjpaaGreatDoor
open Go
theorem noneGoes : Tryz.prog.funcs.any Func.goes = false := by kernel_rfl
theorem goes_false {P : Program} (h : P.funcs.any Func.goes = false) (f : FuncId) : P.goes f = false := by
  unfold Program.goes
  rw [h, Bool.and_false, Bool.or_false]
  rw [List.any_eq_false]
  intro g _
  cases hg : P.funcs[g]? with
  | none => simp
  | some fn =>
    have := Array.any_eq_false'.1 h fn (Array.mem_of_getElem? hg)
    simpa using this
theorem goesFrom_false {P : Program} (h : P.funcs.any Func.goes = false) (n : String) : P.goesFrom n = false := by
  unfold Program.goesFrom
  cases P.funcNamed n with
  | none => rfl
  | some f => exact goes_false h f
theorem boundSizes_goes : false = Rows.boundSizesRow.goesBy Tryz.prog := by
  show false = (Tryz.prog.goesFrom "estray/estraylaw45.BoundSizes" || false)
  rw [goesFrom_false noneGoes]; rfl
end Go.Proofs.YtmheiipmancjpaaGreatDoor
end
section
set_option linter.unusedVariables false
set_option maxRecDepth 100000
namespace Go.Proofs.YtmheiipmancjpaaGreatDoor
open Go
theorem lettersTie : Tryz.prog.laidByTextLater [("estray/answer.letters", Rows.laid_estray_answer_letters)] [.widerDeep] true :=
  Program.laidByTextLater_by_one 14 8 5 tieA tieB tieC tieD tieE tieF tieG
theorem boundSizesTie : Rows.boundSizesRow.laidByTextAt .later Tryz.pinned [.widerDeep] true :=
  OpenClaim.laidByTextAt_later rfl rfl lettersTie tieH
theorem boundSizes_card : Rows.BoundSizesCardSaid :=
  Claim7.holds_tied_plain_at .later [] [.widerDeep] true (true, "072f5447606e57955bbb1d5b9a40780152a45f822ba1e6f1e5df7640b7f255f8") true
    boundSizes_holds (fun _ h => by cases h) cardA (fun _ h => by cases h) boundSizesTie rfl ⟨rfl, rfl⟩ cardB rfl
    (fun f fn hf hfn => by
      obtain rfl : f = 3 := (Option.some.inj (boundSizes_named.symm.trans hf)).symm
      obtain rfl : fn = Tryz.f3 := (Option.some.inj (Tryz.func3.symm.trans hfn)).symm
      exact ⟨cardC, fun j t ht => by
        rw [Tryz.params3] at ht
        have hm : t ∈ [23, 26, 3] := by
          have := Array.mem_of_getElem? ht
          simpa using this
        exact (show Tryz.prog.wantsStandIn t = false by simpa using List.all_eq_true.1 cardD t hm)⟩)
    boundSizes_goes
end Go.Proofs.YtmheiipmancjpaaGreatDoor
end
