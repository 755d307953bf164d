/-
  DERIVED. GIVEN WITH THE SEED: THE CARDS: each row of YtfbcchjmgjafbaaGreatDoorRows.lean that lists a variable, with what it lists TIED to the program's text (the seventh form; the later family's looks); each row that meets fmt, with fmt's text TOLD by the authors' own Lean function (tested against real Go, not proved from fmt's source: count such statements apart). THE CARD IS WHAT COUNTS. Prove the row's statement (the work); the ties are given (YtfbcchjmgjafbaaGreatDoorTie.lean); close each card by the builder's one call (the guide's Derived/Test/ToyasCard.lean, 'card_holds'). Laid BY PROGRAM, IN A SANDBOX (cutbox-door.mjs). By AI agents, Wed Nov 11 2026. No macro, syntax, notation, axiom, sorry.
-/
import Derived.Test.YtfbcchjmgjafbaaGreatDoorRows
import GoSem.ClaimSeven
namespace Go.Proofs.YtfbcchjmgjafbaaGreatDoor
namespace Rows

/-- THE TIED CARD OF 'perilunelaw22.EffectRuns'. -/
def effectRunsCard : Claim7 := { stood := { row := effectRunsRow, standIns := [], harness := (true, "2e28e2e6f7a6f57c5d0fe9fc8b104d5f9570ca1ed54cef189a79b40a230ae3cc"), looks := false }, kinds := [], alts := [], laidByText := true, laidKinds := [.data], laidTests := true, laidLooks := .later }
def EffectRunsCardSaid : Prop := Claim7.holds Tryz.pinned (.plain (OpenSpec.ofChange effectRunsSpec)) effectRunsCard

/-- THE TIED CARD OF 'perilunelaw22.EffectDepends'. -/
def effectDependsCard : Claim7 := { stood := { row := effectDependsRow, standIns := [], harness := (true, "2e28e2e6f7a6f57c5d0fe9fc8b104d5f9570ca1ed54cef189a79b40a230ae3cc"), looks := false }, kinds := [], alts := [], laidByText := true, laidKinds := [.data], laidTests := true, laidLooks := .later }
def EffectDependsCardSaid : Prop := Claim7.holds Tryz.pinned (.plain (OpenSpec.ofChange effectDependsSpec)) effectDependsCard

/-- THE TIED CARD OF 'perilunelaw22.EffectRepeats'. -/
def effectRepeatsCard : Claim7 := { stood := { row := effectRepeatsRow, standIns := [], harness := (true, "2e28e2e6f7a6f57c5d0fe9fc8b104d5f9570ca1ed54cef189a79b40a230ae3cc"), looks := false }, kinds := [], alts := [], laidByText := true, laidKinds := [.data], laidTests := true, laidLooks := .later }
def EffectRepeatsCardSaid : Prop := Claim7.holds Tryz.pinned (.plain (OpenSpec.ofChange effectRepeatsSpec)) effectRepeatsCard

/-- THE SECOND FORM's CARD OF 'perilunelaw22.EffectRuns'. -/
def effectRunsUptoCard : Claim7 := { stood := { row := effectRunsUptoRow, standIns := [], harness := (true, "2e28e2e6f7a6f57c5d0fe9fc8b104d5f9570ca1ed54cef189a79b40a230ae3cc"), looks := false }, kinds := [], alts := [], laidByText := true, laidKinds := [.data], laidTests := true, laidLooks := .later }
def EffectRunsUptoCardSaid : Prop := Claim7.holds Tryz.pinned (.plain (OpenSpec.upto effectRunsSpec)) effectRunsUptoCard

/-- THE SECOND FORM's CARD OF 'perilunelaw22.EffectDepends'. -/
def effectDependsUptoCard : Claim7 := { stood := { row := effectDependsUptoRow, standIns := [], harness := (true, "2e28e2e6f7a6f57c5d0fe9fc8b104d5f9570ca1ed54cef189a79b40a230ae3cc"), looks := false }, kinds := [], alts := [], laidByText := true, laidKinds := [.data], laidTests := true, laidLooks := .later }
def EffectDependsUptoCardSaid : Prop := Claim7.holds Tryz.pinned (.plain (OpenSpec.upto effectDependsSpec)) effectDependsUptoCard

/-- THE SECOND FORM's CARD OF 'perilunelaw22.EffectRepeats'. -/
def effectRepeatsUptoCard : Claim7 := { stood := { row := effectRepeatsUptoRow, standIns := [], harness := (true, "2e28e2e6f7a6f57c5d0fe9fc8b104d5f9570ca1ed54cef189a79b40a230ae3cc"), looks := false }, kinds := [], alts := [], laidByText := true, laidKinds := [.data], laidTests := true, laidLooks := .later }
def EffectRepeatsUptoCardSaid : Prop := Claim7.holds Tryz.pinned (.plain (OpenSpec.upto effectRepeatsSpec)) effectRepeatsUptoCard
end Rows
end Go.Proofs.YtfbcchjmgjafbaaGreatDoor
