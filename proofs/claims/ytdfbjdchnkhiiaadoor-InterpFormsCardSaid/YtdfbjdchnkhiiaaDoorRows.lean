/-
  NARROWER THAN 'FOR EVERY INPUT', by the rows' own cells (each row's printed sentence says how): InterpDivides: laid · InterpForms: laid · InterpScalars: laid · InterpVectors: laid · InterpStack: laid · InterpNeeds: laid · InterpKnown: laid.
  DERIVED. THE GIVEN ROWS OF THIS SEAT. 7 by the template 'for every input the law returns true; each argument reads behind the call as it read before'; 0 by the template 'total and deterministic' (their statements: YtdfbjdchnkhiiaaDoorTotals.lean).
  GIVEN WITH THE SEED: the statements are not yours to turn. If you find one false, say at which input.
  Laid BY PROGRAM, IN A SANDBOX (cutbox-rows.mjs): the forced cells as the released guide's own fill.sh prints them over the translation 9507228eda71473c… (all of the seat's roots in one cut). By AI agents, Wed Nov 11 2026. No macro, syntax, notation, axiom, sorry.
-/
import Derived.Test.YtdfbjdchnkhiiaaDoorChecked
import GoSem.Claim
import GoSem.ClaimJoined
import GoSem.ClaimMapViews
import Derived.JoinedTies
import Derived.KernelRfl
namespace Go.Proofs.YtdfbjdchnkhiiaaDoor
/- THE CELL 'sum', in the pinned program and in every row, IS THE sha256 OF THE DUMP (.gsa) THAT YtdfbjdchnkhiiaaDoorProg.lean LOADS. Nothing in Lean hashes anything: it is a label: what it is worth is what the hold of that sum in a sandbox is worth. -/
noncomputable def Tryd.pinned : Pinned := { name := "ytdfbjdchnkhiiaadoor", sum := "9507228eda71473c766c8a00b86654408113552b61bbbee0c1c9f5efd6b3e632", checked := Tryd.checked }
namespace Rows
def none {H : Type} : Left H := { results := [], args := [] }

/- WHAT THE LISTED PACKAGE-LEVEL VARIABLES READ AS WHEN THE CALL BEGINS. Each datum BY PROGRAM (the guide's laid-datum.mjs) off the statement by which the dump's own 'gosem.cut.vars' lays the variable. In a bare row this is a premise. The card (YtdfbjdchnkhiiaaDoorCards.lean) ties it to the program's text. -/
def laid_perilune_fixed_sines {H : Type} : DataW H := .agg [.lit (.int .i64 8), .lit (.int .i64 (-483)), .lit (.int .i64 21534), .lit (.int .i64 (-628374)), .lit (.int .i64 10696163), .lit (.int .i64 (-86699834)), .lit (.int .i64 210828714)]

/-- 'perilunelaw21.InterpDivides': WHATEVER THE INPUT: true; the input reads as it did. -/
def interpDividesSpec : ChangeSpec := { name := "interpDivides", fn := fun _ => fun
  | [d1, d2, d3] => { results := [.lit (.bool true)], args := [d1, d2, d3] }
  | _ => none }
def interpDividesRow : OpenClaim := { program := "ytdfbjdchnkhiiaadoor", sum := "9507228eda71473c766c8a00b86654408113552b61bbbee0c1c9f5efd6b3e632", func := "perilune/perilunelaw21.InterpDivides", spec := "interpDivides", unfollowed := true, recurses := true, named := ["perilune/fixed.sines"], apart := false, laid := [("perilune/fixed.sines", laid_perilune_fixed_sines)] }
def InterpDividesSaid : Prop := interpDividesRow.holds Tryd.pinned (OpenSpec.ofChange interpDividesSpec)

/-- ITS FALSE NEIGHBOUR: 'it returns false'. Refute it at one input. -/
def interpDividesWrong : ChangeSpec := { name := "interpDivides", fn := fun _ => fun
  | [d1, d2, d3] => { results := [.lit (.bool false)], args := [d1, d2, d3] }
  | _ => none }
def InterpDividesWrongFalsely : Prop := interpDividesRow.holds Tryd.pinned (OpenSpec.ofChange interpDividesWrong)

/-- 'perilunelaw21.InterpForms': WHATEVER THE INPUT: true; the input reads as it did. -/
def interpFormsSpec : ChangeSpec := { name := "interpForms", fn := fun _ => fun
  | [d1, d2, d3] => { results := [.lit (.bool true)], args := [d1, d2, d3] }
  | _ => none }
def interpFormsRow : OpenClaim := { program := "ytdfbjdchnkhiiaadoor", sum := "9507228eda71473c766c8a00b86654408113552b61bbbee0c1c9f5efd6b3e632", func := "perilune/perilunelaw21.InterpForms", spec := "interpForms", unfollowed := true, recurses := true, named := ["perilune/fixed.sines"], apart := false, laid := [("perilune/fixed.sines", laid_perilune_fixed_sines)] }
def InterpFormsSaid : Prop := interpFormsRow.holds Tryd.pinned (OpenSpec.ofChange interpFormsSpec)

/-- ITS FALSE NEIGHBOUR: 'it returns false'. Refute it at one input. -/
def interpFormsWrong : ChangeSpec := { name := "interpForms", fn := fun _ => fun
  | [d1, d2, d3] => { results := [.lit (.bool false)], args := [d1, d2, d3] }
  | _ => none }
def InterpFormsWrongFalsely : Prop := interpFormsRow.holds Tryd.pinned (OpenSpec.ofChange interpFormsWrong)

/-- 'perilunelaw21.InterpScalars': WHATEVER THE INPUT: true; the input reads as it did. -/
def interpScalarsSpec : ChangeSpec := { name := "interpScalars", fn := fun _ => fun
  | [d1, d2, d3] => { results := [.lit (.bool true)], args := [d1, d2, d3] }
  | _ => none }
def interpScalarsRow : OpenClaim := { program := "ytdfbjdchnkhiiaadoor", sum := "9507228eda71473c766c8a00b86654408113552b61bbbee0c1c9f5efd6b3e632", func := "perilune/perilunelaw21.InterpScalars", spec := "interpScalars", unfollowed := true, recurses := true, named := ["perilune/fixed.sines"], apart := false, laid := [("perilune/fixed.sines", laid_perilune_fixed_sines)] }
def InterpScalarsSaid : Prop := interpScalarsRow.holds Tryd.pinned (OpenSpec.ofChange interpScalarsSpec)

/-- ITS FALSE NEIGHBOUR: 'it returns false'. Refute it at one input. -/
def interpScalarsWrong : ChangeSpec := { name := "interpScalars", fn := fun _ => fun
  | [d1, d2, d3] => { results := [.lit (.bool false)], args := [d1, d2, d3] }
  | _ => none }
def InterpScalarsWrongFalsely : Prop := interpScalarsRow.holds Tryd.pinned (OpenSpec.ofChange interpScalarsWrong)

/-- 'perilunelaw21.InterpVectors': WHATEVER THE INPUT: true; the input reads as it did. -/
def interpVectorsSpec : ChangeSpec := { name := "interpVectors", fn := fun _ => fun
  | [d1, d2, d3] => { results := [.lit (.bool true)], args := [d1, d2, d3] }
  | _ => none }
def interpVectorsRow : OpenClaim := { program := "ytdfbjdchnkhiiaadoor", sum := "9507228eda71473c766c8a00b86654408113552b61bbbee0c1c9f5efd6b3e632", func := "perilune/perilunelaw21.InterpVectors", spec := "interpVectors", unfollowed := true, recurses := true, named := ["perilune/fixed.sines"], apart := false, laid := [("perilune/fixed.sines", laid_perilune_fixed_sines)] }
def InterpVectorsSaid : Prop := interpVectorsRow.holds Tryd.pinned (OpenSpec.ofChange interpVectorsSpec)

/-- ITS FALSE NEIGHBOUR: 'it returns false'. Refute it at one input. -/
def interpVectorsWrong : ChangeSpec := { name := "interpVectors", fn := fun _ => fun
  | [d1, d2, d3] => { results := [.lit (.bool false)], args := [d1, d2, d3] }
  | _ => none }
def InterpVectorsWrongFalsely : Prop := interpVectorsRow.holds Tryd.pinned (OpenSpec.ofChange interpVectorsWrong)

/-- 'perilunelaw21.InterpStack': WHATEVER THE INPUT: true; the input reads as it did. -/
def interpStackSpec : ChangeSpec := { name := "interpStack", fn := fun _ => fun
  | [d] => { results := [.lit (.bool true)], args := [d] }
  | _ => none }
def interpStackRow : OpenClaim := { program := "ytdfbjdchnkhiiaadoor", sum := "9507228eda71473c766c8a00b86654408113552b61bbbee0c1c9f5efd6b3e632", func := "perilune/perilunelaw21.InterpStack", spec := "interpStack", unfollowed := true, recurses := true, named := ["perilune/fixed.sines"], apart := false, laid := [("perilune/fixed.sines", laid_perilune_fixed_sines)] }
def InterpStackSaid : Prop := interpStackRow.holds Tryd.pinned (OpenSpec.ofChange interpStackSpec)

/-- ITS FALSE NEIGHBOUR: 'it returns false'. Refute it at one input. -/
def interpStackWrong : ChangeSpec := { name := "interpStack", fn := fun _ => fun
  | [d] => { results := [.lit (.bool false)], args := [d] }
  | _ => none }
def InterpStackWrongFalsely : Prop := interpStackRow.holds Tryd.pinned (OpenSpec.ofChange interpStackWrong)

/-- 'perilunelaw21.InterpNeeds': WHATEVER THE INPUT: true; the input reads as it did. -/
def interpNeedsSpec : ChangeSpec := { name := "interpNeeds", fn := fun _ => fun
  | [d1, d2, d3] => { results := [.lit (.bool true)], args := [d1, d2, d3] }
  | _ => none }
def interpNeedsRow : OpenClaim := { program := "ytdfbjdchnkhiiaadoor", sum := "9507228eda71473c766c8a00b86654408113552b61bbbee0c1c9f5efd6b3e632", func := "perilune/perilunelaw21.InterpNeeds", spec := "interpNeeds", unfollowed := true, recurses := true, named := ["perilune/fixed.sines"], apart := false, laid := [("perilune/fixed.sines", laid_perilune_fixed_sines)] }
def InterpNeedsSaid : Prop := interpNeedsRow.holds Tryd.pinned (OpenSpec.ofChange interpNeedsSpec)

/-- ITS FALSE NEIGHBOUR: 'it returns false'. Refute it at one input. -/
def interpNeedsWrong : ChangeSpec := { name := "interpNeeds", fn := fun _ => fun
  | [d1, d2, d3] => { results := [.lit (.bool false)], args := [d1, d2, d3] }
  | _ => none }
def InterpNeedsWrongFalsely : Prop := interpNeedsRow.holds Tryd.pinned (OpenSpec.ofChange interpNeedsWrong)

/-- 'perilunelaw21.InterpKnown': WHATEVER THE INPUT: true; the input reads as it did. -/
def interpKnownSpec : ChangeSpec := { name := "interpKnown", fn := fun _ => fun
  | [] => { results := [.lit (.bool true)], args := [] }
  | _ => none }
def interpKnownRow : OpenClaim := { program := "ytdfbjdchnkhiiaadoor", sum := "9507228eda71473c766c8a00b86654408113552b61bbbee0c1c9f5efd6b3e632", func := "perilune/perilunelaw21.InterpKnown", spec := "interpKnown", unfollowed := true, recurses := true, named := ["perilune/fixed.sines"], apart := false, laid := [("perilune/fixed.sines", laid_perilune_fixed_sines)] }
def InterpKnownSaid : Prop := interpKnownRow.holds Tryd.pinned (OpenSpec.ofChange interpKnownSpec)

/-- ITS FALSE NEIGHBOUR: 'it returns false'. Refute it at one input. -/
def interpKnownWrong : ChangeSpec := { name := "interpKnown", fn := fun _ => fun
  | [] => { results := [.lit (.bool false)], args := [] }
  | _ => none }
def InterpKnownWrongFalsely : Prop := interpKnownRow.holds Tryd.pinned (OpenSpec.ofChange interpKnownWrong)

/- THE SECOND FORM. 'bulk': how many values and letters a reading holds, each counted each time it is reached (what is shared counts as often as it is met; a slice's spare places count too). A statement '..UptoSaid' is the law's where the arguments, and the package variables that the reading takes, are together of bulk at most 1048576: NARROWER than '..Said'. Prove '..Said' where nothing that the law and all that it calls make is longer than what came in: it says more and counts as full. Else prove '..UptoSaid'. A law counts once. -/
mutual
def uptoBulk {H : Type} : DataW H → Nat
  | .lit (.string bytes) => bytes.length + 1
  | .lit _ => 1
  | .nil => 1
  | .ptr d => uptoBulk d + 1
  | .slice elems spare => uptoBulkAll elems + uptoBulkAll spare + 1
  | .agg parts => uptoBulkAll parts + 1
  | .iface _ d => uptoBulk d + 1
  | .map entries => uptoBulkEntries entries + 1
  | .held _ => 1
def uptoBulkAll {H : Type} : List (DataW H) → Nat
  | [] => 0
  | d :: r => uptoBulk d + uptoBulkAll r
def uptoBulkEntries {H : Type} : List (Lit × DataW H) → Nat
  | [] => 0
  | x :: r => uptoBulkEntry x + uptoBulkEntries r
def uptoBulkEntry {H : Type} : Lit × DataW H → Nat
  | (.string bytes, d) => bytes.length + uptoBulk d + 1
  | (_, d) => uptoBulk d + 1
 end
def uptoSmall : (H : Type) → List (DataW H) → Bool := fun _ ds => decide (uptoBulkAll ds ≤ 1048576)
def OpenSpec.upto (s : _root_.Go.ChangeSpec) : _root_.Go.OpenSpec := { _root_.Go.OpenSpec.ofChange s with cond := some uptoSmall }

/-- 'perilunelaw21.InterpDivides', WHERE WHAT IT READS IS OF BULK AT MOST 1048576: true; the input reads as it did. -/
def interpDividesUptoRow : OpenClaim := { program := "ytdfbjdchnkhiiaadoor", sum := "9507228eda71473c766c8a00b86654408113552b61bbbee0c1c9f5efd6b3e632", func := "perilune/perilunelaw21.InterpDivides", spec := "interpDivides", unfollowed := true, recurses := true, named := ["perilune/fixed.sines"], apart := false, laid := [("perilune/fixed.sines", laid_perilune_fixed_sines)], narrowed := true }
def InterpDividesUptoSaid : Prop := interpDividesUptoRow.holds Tryd.pinned (OpenSpec.upto interpDividesSpec)

/-- 'perilunelaw21.InterpForms', WHERE WHAT IT READS IS OF BULK AT MOST 1048576: true; the input reads as it did. -/
def interpFormsUptoRow : OpenClaim := { program := "ytdfbjdchnkhiiaadoor", sum := "9507228eda71473c766c8a00b86654408113552b61bbbee0c1c9f5efd6b3e632", func := "perilune/perilunelaw21.InterpForms", spec := "interpForms", unfollowed := true, recurses := true, named := ["perilune/fixed.sines"], apart := false, laid := [("perilune/fixed.sines", laid_perilune_fixed_sines)], narrowed := true }
def InterpFormsUptoSaid : Prop := interpFormsUptoRow.holds Tryd.pinned (OpenSpec.upto interpFormsSpec)

/-- 'perilunelaw21.InterpScalars', WHERE WHAT IT READS IS OF BULK AT MOST 1048576: true; the input reads as it did. -/
def interpScalarsUptoRow : OpenClaim := { program := "ytdfbjdchnkhiiaadoor", sum := "9507228eda71473c766c8a00b86654408113552b61bbbee0c1c9f5efd6b3e632", func := "perilune/perilunelaw21.InterpScalars", spec := "interpScalars", unfollowed := true, recurses := true, named := ["perilune/fixed.sines"], apart := false, laid := [("perilune/fixed.sines", laid_perilune_fixed_sines)], narrowed := true }
def InterpScalarsUptoSaid : Prop := interpScalarsUptoRow.holds Tryd.pinned (OpenSpec.upto interpScalarsSpec)

/-- 'perilunelaw21.InterpVectors', WHERE WHAT IT READS IS OF BULK AT MOST 1048576: true; the input reads as it did. -/
def interpVectorsUptoRow : OpenClaim := { program := "ytdfbjdchnkhiiaadoor", sum := "9507228eda71473c766c8a00b86654408113552b61bbbee0c1c9f5efd6b3e632", func := "perilune/perilunelaw21.InterpVectors", spec := "interpVectors", unfollowed := true, recurses := true, named := ["perilune/fixed.sines"], apart := false, laid := [("perilune/fixed.sines", laid_perilune_fixed_sines)], narrowed := true }
def InterpVectorsUptoSaid : Prop := interpVectorsUptoRow.holds Tryd.pinned (OpenSpec.upto interpVectorsSpec)

/-- 'perilunelaw21.InterpStack', WHERE WHAT IT READS IS OF BULK AT MOST 1048576: true; the input reads as it did. -/
def interpStackUptoRow : OpenClaim := { program := "ytdfbjdchnkhiiaadoor", sum := "9507228eda71473c766c8a00b86654408113552b61bbbee0c1c9f5efd6b3e632", func := "perilune/perilunelaw21.InterpStack", spec := "interpStack", unfollowed := true, recurses := true, named := ["perilune/fixed.sines"], apart := false, laid := [("perilune/fixed.sines", laid_perilune_fixed_sines)], narrowed := true }
def InterpStackUptoSaid : Prop := interpStackUptoRow.holds Tryd.pinned (OpenSpec.upto interpStackSpec)

/-- 'perilunelaw21.InterpNeeds', WHERE WHAT IT READS IS OF BULK AT MOST 1048576: true; the input reads as it did. -/
def interpNeedsUptoRow : OpenClaim := { program := "ytdfbjdchnkhiiaadoor", sum := "9507228eda71473c766c8a00b86654408113552b61bbbee0c1c9f5efd6b3e632", func := "perilune/perilunelaw21.InterpNeeds", spec := "interpNeeds", unfollowed := true, recurses := true, named := ["perilune/fixed.sines"], apart := false, laid := [("perilune/fixed.sines", laid_perilune_fixed_sines)], narrowed := true }
def InterpNeedsUptoSaid : Prop := interpNeedsUptoRow.holds Tryd.pinned (OpenSpec.upto interpNeedsSpec)

/-- 'perilunelaw21.InterpKnown', WHERE WHAT IT READS IS OF BULK AT MOST 1048576: true; the input reads as it did. -/
def interpKnownUptoRow : OpenClaim := { program := "ytdfbjdchnkhiiaadoor", sum := "9507228eda71473c766c8a00b86654408113552b61bbbee0c1c9f5efd6b3e632", func := "perilune/perilunelaw21.InterpKnown", spec := "interpKnown", unfollowed := true, recurses := true, named := ["perilune/fixed.sines"], apart := false, laid := [("perilune/fixed.sines", laid_perilune_fixed_sines)], narrowed := true }
def InterpKnownUptoSaid : Prop := interpKnownUptoRow.holds Tryd.pinned (OpenSpec.upto interpKnownSpec)

end Rows
end Go.Proofs.YtdfbjdchnkhiiaaDoor
