/-
  DERIVED. GIVEN WITH THE SEED: THE CARDS: each row of YtchkmdhncgahbaaGreatDoorRows.lean that lists a variable, with what it lists TIED to the program's text (the seventh form; the later family's looks); each row that meets fmt, with fmt's text TOLD by the authors' own Lean function (tested against real Go, not proved from fmt's source: count such statements apart). THE CARD IS WHAT COUNTS. Prove the row's statement (the work); the ties are given (YtchkmdhncgahbaaGreatDoorTie.lean); close each card by the builder's one call (the guide's Derived/Test/ToyasCard.lean, 'card_holds'). Laid BY PROGRAM, IN A SANDBOX (cutbox-door.mjs). By AI agents, Wed Nov 11 2026. No macro, syntax, notation, axiom, sorry.
-/
import Derived.Test.YtchkmdhncgahbaaGreatDoorRows
import GoSem.ClaimSeven
namespace Go.Proofs.YtchkmdhncgahbaaGreatDoor
namespace Rows

/-- THE TIED CARD OF 'perilunetop.QuotientExact'. -/
def quotientExactCard : Claim7 := { stood := { row := quotientExactRow, standIns := [], harness := (true, "8c274fe8aa66780d003d453fd7f442f1ca29ec08aa1c669ec9dfebaa36e178d1"), looks := false }, kinds := [], alts := [], laidByText := true, laidKinds := [.data], laidTests := true, laidLooks := .later }
def QuotientExactCardSaid : Prop := Claim7.holds Tryz.pinned (.plain (OpenSpec.ofChange quotientExactSpec)) quotientExactCard

/-- THE TIED CARD OF 'perilunetop.ArithmeticExact'. -/
def arithmeticExactCard : Claim7 := { stood := { row := arithmeticExactRow, standIns := [], harness := (true, "8c274fe8aa66780d003d453fd7f442f1ca29ec08aa1c669ec9dfebaa36e178d1"), looks := false }, kinds := [], alts := [], laidByText := true, laidKinds := [.data], laidTests := true, laidLooks := .later }
def ArithmeticExactCardSaid : Prop := Claim7.holds Tryz.pinned (.plain (OpenSpec.ofChange arithmeticExactSpec)) arithmeticExactCard

/-- THE SECOND FORM's CARD OF 'perilunetop.QuotientExact'. -/
def quotientExactUptoCard : Claim7 := { stood := { row := quotientExactUptoRow, standIns := [], harness := (true, "8c274fe8aa66780d003d453fd7f442f1ca29ec08aa1c669ec9dfebaa36e178d1"), looks := false }, kinds := [], alts := [], laidByText := true, laidKinds := [.data], laidTests := true, laidLooks := .later }
def QuotientExactUptoCardSaid : Prop := Claim7.holds Tryz.pinned (.plain (OpenSpec.upto quotientExactSpec)) quotientExactUptoCard

/-- THE SECOND FORM's CARD OF 'perilunetop.ArithmeticExact'. -/
def arithmeticExactUptoCard : Claim7 := { stood := { row := arithmeticExactUptoRow, standIns := [], harness := (true, "8c274fe8aa66780d003d453fd7f442f1ca29ec08aa1c669ec9dfebaa36e178d1"), looks := false }, kinds := [], alts := [], laidByText := true, laidKinds := [.data], laidTests := true, laidLooks := .later }
def ArithmeticExactUptoCardSaid : Prop := Claim7.holds Tryz.pinned (.plain (OpenSpec.upto arithmeticExactSpec)) arithmeticExactUptoCard
end Rows
end Go.Proofs.YtchkmdhncgahbaaGreatDoor
