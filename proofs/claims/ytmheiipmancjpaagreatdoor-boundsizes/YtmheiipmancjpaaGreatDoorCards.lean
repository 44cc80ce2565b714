/-
  DERIVED. GIVEN WITH THE SEED: THE CARDS: each row of YtmheiipmancjpaaGreatDoorRows.lean that lists a variable, with what it lists TIED to the program's text (the seventh form; the later family's looks); each row that meets fmt, with fmt's text TOLD by the authors' own Lean function (tested against real Go, not proved from fmt's source: count such statements apart). THE CARD IS WHAT COUNTS. Prove the row's statement (the work); the ties are given (YtmheiipmancjpaaGreatDoorTie.lean); close each card by the builder's one call (the guide's Derived/Test/ToyasCard.lean, 'card_holds'). Laid BY PROGRAM, IN A SANDBOX (cutbox-door.mjs). By AI agents, Wed Nov 11 2026. No macro, syntax, notation, axiom, sorry.
-/
import Derived.Test.YtmheiipmancjpaaGreatDoorRows
import GoSem.ClaimSeven
namespace Go.Proofs.YtmheiipmancjpaaGreatDoor
namespace Rows

/-- THE TIED CARD OF 'estraylaw45.BoundSizes'. -/
def boundSizesCard : Claim7 := { stood := { row := boundSizesRow, standIns := [], harness := (true, "072f5447606e57955bbb1d5b9a40780152a45f822ba1e6f1e5df7640b7f255f8"), looks := true }, kinds := [], alts := [], laidByText := true, laidKinds := [.widerDeep], laidTests := true, laidLooks := .later }
def BoundSizesCardSaid : Prop := Claim7.holds Tryz.pinned (.plain (OpenSpec.ofChange boundSizesSpec)) boundSizesCard

/-- THE TIED CARD OF 'estraylaw45.BoundFairs'. -/
def boundFairsCard : Claim7 := { stood := { row := boundFairsRow, standIns := [], harness := (true, "072f5447606e57955bbb1d5b9a40780152a45f822ba1e6f1e5df7640b7f255f8"), looks := true }, kinds := [], alts := [], laidByText := true, laidKinds := [.widerDeep], laidTests := true, laidLooks := .later }
def BoundFairsCardSaid : Prop := Claim7.holds Tryz.pinned (.plain (OpenSpec.ofChange boundFairsSpec)) boundFairsCard

/-- THE SECOND FORM's CARD OF 'estraylaw45.BoundSizes'. -/
def boundSizesUptoCard : Claim7 := { stood := { row := boundSizesUptoRow, standIns := [], harness := (true, "072f5447606e57955bbb1d5b9a40780152a45f822ba1e6f1e5df7640b7f255f8"), looks := true }, kinds := [], alts := [], laidByText := true, laidKinds := [.widerDeep], laidTests := true, laidLooks := .later }
def BoundSizesUptoCardSaid : Prop := Claim7.holds Tryz.pinned (.plain (OpenSpec.upto boundSizesSpec)) boundSizesUptoCard

/-- THE SECOND FORM's CARD OF 'estraylaw45.BoundFairs'. -/
def boundFairsUptoCard : Claim7 := { stood := { row := boundFairsUptoRow, standIns := [], harness := (true, "072f5447606e57955bbb1d5b9a40780152a45f822ba1e6f1e5df7640b7f255f8"), looks := true }, kinds := [], alts := [], laidByText := true, laidKinds := [.widerDeep], laidTests := true, laidLooks := .later }
def BoundFairsUptoCardSaid : Prop := Claim7.holds Tryz.pinned (.plain (OpenSpec.upto boundFairsSpec)) boundFairsUptoCard
end Rows
end Go.Proofs.YtmheiipmancjpaaGreatDoor
