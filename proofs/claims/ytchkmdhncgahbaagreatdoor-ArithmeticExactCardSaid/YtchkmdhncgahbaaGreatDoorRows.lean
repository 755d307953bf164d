/-
  NARROWER THAN 'FOR EVERY INPUT', by the rows' own cells (each row's printed sentence says how): QuotientExact: laid · ArithmeticExact: laid.
  DERIVED. THE GIVEN ROWS OF THIS SEAT. 2 by the template 'for every input the law returns true; each argument reads behind the call as it read before'; 0 by the template 'total and deterministic' (their statements: YtchkmdhncgahbaaGreatDoorTotals.lean).
  GIVEN WITH THE SEED: the statements are not yours to turn. If you find one false, say at which input.
  Laid BY PROGRAM, IN A SANDBOX (cutbox-rows.mjs): the forced cells as the released guide's own fill.sh prints them over the translation bc33b14e5f5a9054… (all of the seat's roots in one cut). By AI agents, Wed Nov 11 2026. No macro, syntax, notation, axiom, sorry.
-/
import Derived.Test.YtchkmdhncgahbaaGreatDoorChecked
import GoSem.Claim
import GoSem.ClaimJoined
import GoSem.ClaimMapViews
import Derived.JoinedTies
import Derived.KernelRfl
namespace Go.Proofs.YtchkmdhncgahbaaGreatDoor
/- THE CELL 'sum', in the pinned program and in every row, IS THE sha256 OF THE DUMP (.gsa) THAT YtchkmdhncgahbaaGreatDoorProg.lean LOADS. Nothing in Lean hashes anything: it is a label: what it is worth is what the hold of that sum in a sandbox is worth. -/
noncomputable def Tryz.pinned : Pinned := { name := "ytchkmdhncgahbaagreatdoor", sum := "bc33b14e5f5a9054e8da75abc75ad6180ec665bcf8be1822c5d2de9b4e0d3f29", checked := Tryz.checked }
namespace Rows
def none {H : Type} : Left H := { results := [], args := [] }

/- WHAT THE LISTED PACKAGE-LEVEL VARIABLES READ AS WHEN THE CALL BEGINS. Each datum BY PROGRAM (the guide's laid-datum.mjs) off the statement by which the dump's own 'gosem.cut.vars' lays the variable. In a bare row this is a premise. The card (YtchkmdhncgahbaaGreatDoorCards.lean) ties it to the program's text. -/
def laid_perilune_fixed_sines {H : Type} : DataW H := .agg [.lit (.int .i64 8), .lit (.int .i64 (-483)), .lit (.int .i64 21534), .lit (.int .i64 (-628374)), .lit (.int .i64 10696163), .lit (.int .i64 (-86699834)), .lit (.int .i64 210828714)]

/-- 'perilunetop.QuotientExact': WHATEVER THE INPUT: true; the input reads as it did. -/
def quotientExactSpec : ChangeSpec := { name := "quotientExact", fn := fun _ => fun
  | [d1, d2] => { results := [.lit (.bool true)], args := [d1, d2] }
  | _ => none }
def quotientExactRow : OpenClaim := { program := "ytchkmdhncgahbaagreatdoor", sum := "bc33b14e5f5a9054e8da75abc75ad6180ec665bcf8be1822c5d2de9b4e0d3f29", func := "perilune/perilunetop.QuotientExact", spec := "quotientExact", unfollowed := true, recurses := true, named := ["perilune/fixed.sines"], apart := false, laid := [("perilune/fixed.sines", laid_perilune_fixed_sines)] }
def QuotientExactSaid : Prop := quotientExactRow.holds Tryz.pinned (OpenSpec.ofChange quotientExactSpec)

/-- ITS FALSE NEIGHBOUR: 'it returns false'. Refute it at one input. -/
def quotientExactWrong : ChangeSpec := { name := "quotientExact", fn := fun _ => fun
  | [d1, d2] => { results := [.lit (.bool false)], args := [d1, d2] }
  | _ => none }
def QuotientExactWrongFalsely : Prop := quotientExactRow.holds Tryz.pinned (OpenSpec.ofChange quotientExactWrong)

/-- 'perilunetop.ArithmeticExact': WHATEVER THE INPUT: true; the input reads as it did. -/
def arithmeticExactSpec : ChangeSpec := { name := "arithmeticExact", fn := fun _ => fun
  | [d1, d2, d3] => { results := [.lit (.bool true)], args := [d1, d2, d3] }
  | _ => none }
def arithmeticExactRow : OpenClaim := { program := "ytchkmdhncgahbaagreatdoor", sum := "bc33b14e5f5a9054e8da75abc75ad6180ec665bcf8be1822c5d2de9b4e0d3f29", func := "perilune/perilunetop.ArithmeticExact", spec := "arithmeticExact", unfollowed := true, recurses := true, named := ["perilune/fixed.sines"], apart := false, laid := [("perilune/fixed.sines", laid_perilune_fixed_sines)] }
def ArithmeticExactSaid : Prop := arithmeticExactRow.holds Tryz.pinned (OpenSpec.ofChange arithmeticExactSpec)

/-- ITS FALSE NEIGHBOUR: 'it returns false'. Refute it at one input. -/
def arithmeticExactWrong : ChangeSpec := { name := "arithmeticExact", fn := fun _ => fun
  | [d1, d2, d3] => { results := [.lit (.bool false)], args := [d1, d2, d3] }
  | _ => none }
def ArithmeticExactWrongFalsely : Prop := arithmeticExactRow.holds Tryz.pinned (OpenSpec.ofChange arithmeticExactWrong)

/- THE SECOND FORM. 'bulk': how many values and letters a reading holds, each counted each time it is reached (what is shared counts as often as it is met; a slice's spare places count too). A statement '..UptoSaid' is the law's where the arguments, and the package variables that the reading takes, are together of bulk at most 1048576: NARROWER than '..Said'. Prove '..Said' where nothing that the law and all that it calls make is longer than what came in: it says more and counts as full. Else prove '..UptoSaid'. A law counts once. -/
mutual
def uptoBulk {H : Type} : DataW H → Nat
  | .lit (.string bytes) => bytes.length + 1
  | .lit _ => 1
  | .nil => 1
  | .ptr d => uptoBulk d + 1
  | .slice elems spare => uptoBulkAll elems + uptoBulkAll spare + 1
  | .agg parts => uptoBulkAll parts + 1
  | .iface _ d => uptoBulk d + 1
  | .map entries => uptoBulkEntries entries + 1
  | .held _ => 1
def uptoBulkAll {H : Type} : List (DataW H) → Nat
  | [] => 0
  | d :: r => uptoBulk d + uptoBulkAll r
def uptoBulkEntries {H : Type} : List (Lit × DataW H) → Nat
  | [] => 0
  | x :: r => uptoBulkEntry x + uptoBulkEntries r
def uptoBulkEntry {H : Type} : Lit × DataW H → Nat
  | (.string bytes, d) => bytes.length + uptoBulk d + 1
  | (_, d) => uptoBulk d + 1
 end
def uptoSmall : (H : Type) → List (DataW H) → Bool := fun _ ds => decide (uptoBulkAll ds ≤ 1048576)
def OpenSpec.upto (s : _root_.Go.ChangeSpec) : _root_.Go.OpenSpec := { _root_.Go.OpenSpec.ofChange s with cond := some uptoSmall }

/-- 'perilunetop.QuotientExact', WHERE WHAT IT READS IS OF BULK AT MOST 1048576: true; the input reads as it did. -/
def quotientExactUptoRow : OpenClaim := { program := "ytchkmdhncgahbaagreatdoor", sum := "bc33b14e5f5a9054e8da75abc75ad6180ec665bcf8be1822c5d2de9b4e0d3f29", func := "perilune/perilunetop.QuotientExact", spec := "quotientExact", unfollowed := true, recurses := true, named := ["perilune/fixed.sines"], apart := false, laid := [("perilune/fixed.sines", laid_perilune_fixed_sines)], narrowed := true }
def QuotientExactUptoSaid : Prop := quotientExactUptoRow.holds Tryz.pinned (OpenSpec.upto quotientExactSpec)

/-- 'perilunetop.ArithmeticExact', WHERE WHAT IT READS IS OF BULK AT MOST 1048576: true; the input reads as it did. -/
def arithmeticExactUptoRow : OpenClaim := { program := "ytchkmdhncgahbaagreatdoor", sum := "bc33b14e5f5a9054e8da75abc75ad6180ec665bcf8be1822c5d2de9b4e0d3f29", func := "perilune/perilunetop.ArithmeticExact", spec := "arithmeticExact", unfollowed := true, recurses := true, named := ["perilune/fixed.sines"], apart := false, laid := [("perilune/fixed.sines", laid_perilune_fixed_sines)], narrowed := true }
def ArithmeticExactUptoSaid : Prop := arithmeticExactUptoRow.holds Tryz.pinned (OpenSpec.upto arithmeticExactSpec)

end Rows
end Go.Proofs.YtchkmdhncgahbaaGreatDoor
