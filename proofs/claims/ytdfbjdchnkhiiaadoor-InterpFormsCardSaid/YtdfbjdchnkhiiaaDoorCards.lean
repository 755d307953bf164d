/-
  DERIVED. GIVEN WITH THE SEED: THE CARDS: each row of YtdfbjdchnkhiiaaDoorRows.lean that lists a variable, with what it lists TIED to the program's text (the seventh form; the later family's looks); each row that meets fmt, with fmt's text TOLD by the authors' own Lean function (tested against real Go, not proved from fmt's source: count such statements apart). THE CARD IS WHAT COUNTS. Prove the row's statement (the work); the ties are given (YtdfbjdchnkhiiaaDoorTie.lean); close each card by the builder's one call (the guide's Derived/Test/ToyasCard.lean, 'card_holds'). Laid BY PROGRAM, IN A SANDBOX (cutbox-door.mjs). By AI agents, Wed Nov 11 2026. No macro, syntax, notation, axiom, sorry.
-/
import Derived.Test.YtdfbjdchnkhiiaaDoorRows
import GoSem.ClaimSeven
namespace Go.Proofs.YtdfbjdchnkhiiaaDoor
namespace Rows

/-- THE TIED CARD OF 'perilunelaw21.InterpDivides'. -/
def interpDividesCard : Claim7 := { stood := { row := interpDividesRow, standIns := [], harness := (true, "1134f90c0997211a83eefdc09e98a7f2a51045b0044be13a33c2293b56019d31"), looks := false }, kinds := [], alts := [], laidByText := true, laidKinds := [.data], laidTests := true, laidLooks := .later }
def InterpDividesCardSaid : Prop := Claim7.holds Tryd.pinned (.plain (OpenSpec.ofChange interpDividesSpec)) interpDividesCard

/-- THE TIED CARD OF 'perilunelaw21.InterpForms'. -/
def interpFormsCard : Claim7 := { stood := { row := interpFormsRow, standIns := [], harness := (true, "1134f90c0997211a83eefdc09e98a7f2a51045b0044be13a33c2293b56019d31"), looks := false }, kinds := [], alts := [], laidByText := true, laidKinds := [.data], laidTests := true, laidLooks := .later }
def InterpFormsCardSaid : Prop := Claim7.holds Tryd.pinned (.plain (OpenSpec.ofChange interpFormsSpec)) interpFormsCard

/-- THE TIED CARD OF 'perilunelaw21.InterpScalars'. -/
def interpScalarsCard : Claim7 := { stood := { row := interpScalarsRow, standIns := [], harness := (true, "1134f90c0997211a83eefdc09e98a7f2a51045b0044be13a33c2293b56019d31"), looks := false }, kinds := [], alts := [], laidByText := true, laidKinds := [.data], laidTests := true, laidLooks := .later }
def InterpScalarsCardSaid : Prop := Claim7.holds Tryd.pinned (.plain (OpenSpec.ofChange interpScalarsSpec)) interpScalarsCard

/-- THE TIED CARD OF 'perilunelaw21.InterpVectors'. -/
def interpVectorsCard : Claim7 := { stood := { row := interpVectorsRow, standIns := [], harness := (true, "1134f90c0997211a83eefdc09e98a7f2a51045b0044be13a33c2293b56019d31"), looks := false }, kinds := [], alts := [], laidByText := true, laidKinds := [.data], laidTests := true, laidLooks := .later }
def InterpVectorsCardSaid : Prop := Claim7.holds Tryd.pinned (.plain (OpenSpec.ofChange interpVectorsSpec)) interpVectorsCard

/-- THE TIED CARD OF 'perilunelaw21.InterpStack'. -/
def interpStackCard : Claim7 := { stood := { row := interpStackRow, standIns := [], harness := (true, "1134f90c0997211a83eefdc09e98a7f2a51045b0044be13a33c2293b56019d31"), looks := false }, kinds := [], alts := [], laidByText := true, laidKinds := [.data], laidTests := true, laidLooks := .later }
def InterpStackCardSaid : Prop := Claim7.holds Tryd.pinned (.plain (OpenSpec.ofChange interpStackSpec)) interpStackCard

/-- THE TIED CARD OF 'perilunelaw21.InterpNeeds'. -/
def interpNeedsCard : Claim7 := { stood := { row := interpNeedsRow, standIns := [], harness := (true, "1134f90c0997211a83eefdc09e98a7f2a51045b0044be13a33c2293b56019d31"), looks := false }, kinds := [], alts := [], laidByText := true, laidKinds := [.data], laidTests := true, laidLooks := .later }
def InterpNeedsCardSaid : Prop := Claim7.holds Tryd.pinned (.plain (OpenSpec.ofChange interpNeedsSpec)) interpNeedsCard

/-- THE TIED CARD OF 'perilunelaw21.InterpKnown'. -/
def interpKnownCard : Claim7 := { stood := { row := interpKnownRow, standIns := [], harness := (true, "1134f90c0997211a83eefdc09e98a7f2a51045b0044be13a33c2293b56019d31"), looks := false }, kinds := [], alts := [], laidByText := true, laidKinds := [.data], laidTests := true, laidLooks := .later }
def InterpKnownCardSaid : Prop := Claim7.holds Tryd.pinned (.plain (OpenSpec.ofChange interpKnownSpec)) interpKnownCard

/-- THE SECOND FORM's CARD OF 'perilunelaw21.InterpDivides'. -/
def interpDividesUptoCard : Claim7 := { stood := { row := interpDividesUptoRow, standIns := [], harness := (true, "1134f90c0997211a83eefdc09e98a7f2a51045b0044be13a33c2293b56019d31"), looks := false }, kinds := [], alts := [], laidByText := true, laidKinds := [.data], laidTests := true, laidLooks := .later }
def InterpDividesUptoCardSaid : Prop := Claim7.holds Tryd.pinned (.plain (OpenSpec.upto interpDividesSpec)) interpDividesUptoCard

/-- THE SECOND FORM's CARD OF 'perilunelaw21.InterpForms'. -/
def interpFormsUptoCard : Claim7 := { stood := { row := interpFormsUptoRow, standIns := [], harness := (true, "1134f90c0997211a83eefdc09e98a7f2a51045b0044be13a33c2293b56019d31"), looks := false }, kinds := [], alts := [], laidByText := true, laidKinds := [.data], laidTests := true, laidLooks := .later }
def InterpFormsUptoCardSaid : Prop := Claim7.holds Tryd.pinned (.plain (OpenSpec.upto interpFormsSpec)) interpFormsUptoCard

/-- THE SECOND FORM's CARD OF 'perilunelaw21.InterpScalars'. -/
def interpScalarsUptoCard : Claim7 := { stood := { row := interpScalarsUptoRow, standIns := [], harness := (true, "1134f90c0997211a83eefdc09e98a7f2a51045b0044be13a33c2293b56019d31"), looks := false }, kinds := [], alts := [], laidByText := true, laidKinds := [.data], laidTests := true, laidLooks := .later }
def InterpScalarsUptoCardSaid : Prop := Claim7.holds Tryd.pinned (.plain (OpenSpec.upto interpScalarsSpec)) interpScalarsUptoCard

/-- THE SECOND FORM's CARD OF 'perilunelaw21.InterpVectors'. -/
def interpVectorsUptoCard : Claim7 := { stood := { row := interpVectorsUptoRow, standIns := [], harness := (true, "1134f90c0997211a83eefdc09e98a7f2a51045b0044be13a33c2293b56019d31"), looks := false }, kinds := [], alts := [], laidByText := true, laidKinds := [.data], laidTests := true, laidLooks := .later }
def InterpVectorsUptoCardSaid : Prop := Claim7.holds Tryd.pinned (.plain (OpenSpec.upto interpVectorsSpec)) interpVectorsUptoCard

/-- THE SECOND FORM's CARD OF 'perilunelaw21.InterpStack'. -/
def interpStackUptoCard : Claim7 := { stood := { row := interpStackUptoRow, standIns := [], harness := (true, "1134f90c0997211a83eefdc09e98a7f2a51045b0044be13a33c2293b56019d31"), looks := false }, kinds := [], alts := [], laidByText := true, laidKinds := [.data], laidTests := true, laidLooks := .later }
def InterpStackUptoCardSaid : Prop := Claim7.holds Tryd.pinned (.plain (OpenSpec.upto interpStackSpec)) interpStackUptoCard

/-- THE SECOND FORM's CARD OF 'perilunelaw21.InterpNeeds'. -/
def interpNeedsUptoCard : Claim7 := { stood := { row := interpNeedsUptoRow, standIns := [], harness := (true, "1134f90c0997211a83eefdc09e98a7f2a51045b0044be13a33c2293b56019d31"), looks := false }, kinds := [], alts := [], laidByText := true, laidKinds := [.data], laidTests := true, laidLooks := .later }
def InterpNeedsUptoCardSaid : Prop := Claim7.holds Tryd.pinned (.plain (OpenSpec.upto interpNeedsSpec)) interpNeedsUptoCard

/-- THE SECOND FORM's CARD OF 'perilunelaw21.InterpKnown'. -/
def interpKnownUptoCard : Claim7 := { stood := { row := interpKnownUptoRow, standIns := [], harness := (true, "1134f90c0997211a83eefdc09e98a7f2a51045b0044be13a33c2293b56019d31"), looks := false }, kinds := [], alts := [], laidByText := true, laidKinds := [.data], laidTests := true, laidLooks := .later }
def InterpKnownUptoCardSaid : Prop := Claim7.holds Tryd.pinned (.plain (OpenSpec.upto interpKnownSpec)) interpKnownUptoCard
end Rows
end Go.Proofs.YtdfbjdchnkhiiaaDoor
