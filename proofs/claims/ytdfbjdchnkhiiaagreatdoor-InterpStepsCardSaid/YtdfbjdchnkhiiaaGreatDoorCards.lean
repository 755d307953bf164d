/-
  DERIVED. GIVEN WITH THE SEED: THE CARDS: each row of YtdfbjdchnkhiiaaGreatDoorRows.lean that lists a variable, with what it lists TIED to the program's text (the seventh form; the later family's looks); each row that meets fmt, with fmt's text TOLD by the authors' own Lean function (tested against real Go, not proved from fmt's source: count such statements apart). THE CARD IS WHAT COUNTS. Prove the row's statement (the work); the ties are given (YtdfbjdchnkhiiaaGreatDoorTie.lean); close each card by the builder's one call (the guide's Derived/Test/ToyasCard.lean, 'card_holds'). Laid BY PROGRAM, IN A SANDBOX (cutbox-door.mjs). By AI agents, Wed Nov 11 2026. No macro, syntax, notation, axiom, sorry.
-/
import Derived.Test.YtdfbjdchnkhiiaaGreatDoorRows
import GoSem.ClaimSeven
namespace Go.Proofs.YtdfbjdchnkhiiaaGreatDoor
namespace Rows

/-- THE TIED CARD OF 'perilunelaw21.InterpSteps'. -/
def interpStepsCard : Claim7 := { stood := { row := interpStepsRow, standIns := [], harness := (true, "808239e3f09042eb8911a635546e823abfdc8bd2d7bcde3db075365643778735"), looks := false }, kinds := [], alts := [], laidByText := true, laidKinds := [.data], laidTests := true, laidLooks := .later }
def InterpStepsCardSaid : Prop := Claim7.holds Tryz.pinned (.plain (OpenSpec.ofChange interpStepsSpec)) interpStepsCard

/-- THE TIED CARD OF 'perilunelaw21.InterpRuns'. -/
def interpRunsCard : Claim7 := { stood := { row := interpRunsRow, standIns := [], harness := (true, "808239e3f09042eb8911a635546e823abfdc8bd2d7bcde3db075365643778735"), looks := false }, kinds := [], alts := [], laidByText := true, laidKinds := [.data], laidTests := true, laidLooks := .later }
def InterpRunsCardSaid : Prop := Claim7.holds Tryz.pinned (.plain (OpenSpec.ofChange interpRunsSpec)) interpRunsCard

/-- THE SECOND FORM's CARD OF 'perilunelaw21.InterpSteps'. -/
def interpStepsUptoCard : Claim7 := { stood := { row := interpStepsUptoRow, standIns := [], harness := (true, "808239e3f09042eb8911a635546e823abfdc8bd2d7bcde3db075365643778735"), looks := false }, kinds := [], alts := [], laidByText := true, laidKinds := [.data], laidTests := true, laidLooks := .later }
def InterpStepsUptoCardSaid : Prop := Claim7.holds Tryz.pinned (.plain (OpenSpec.upto interpStepsSpec)) interpStepsUptoCard

/-- THE SECOND FORM's CARD OF 'perilunelaw21.InterpRuns'. -/
def interpRunsUptoCard : Claim7 := { stood := { row := interpRunsUptoRow, standIns := [], harness := (true, "808239e3f09042eb8911a635546e823abfdc8bd2d7bcde3db075365643778735"), looks := false }, kinds := [], alts := [], laidByText := true, laidKinds := [.data], laidTests := true, laidLooks := .later }
def InterpRunsUptoCardSaid : Prop := Claim7.holds Tryz.pinned (.plain (OpenSpec.upto interpRunsSpec)) interpRunsUptoCard
end Rows
end Go.Proofs.YtdfbjdchnkhiiaaGreatDoor
