/-
  NARROWER THAN 'FOR EVERY INPUT', by the rows' own cells (each row's printed sentence says how): InterpSteps: laid · InterpRuns: laid.
  DERIVED. THE GIVEN ROWS OF THIS SEAT. 2 by the template 'for every input the law returns true; each argument reads behind the call as it read before'; 0 by the template 'total and deterministic' (their statements: YtdfbjdchnkhiiaaGreatDoorTotals.lean).
  GIVEN WITH THE SEED: the statements are not yours to turn. If you find one false, say at which input.
  Laid BY PROGRAM, IN A SANDBOX (cutbox-rows.mjs): the forced cells as the released guide's own fill.sh prints them over the translation 06680106b261eacc… (all of the seat's roots in one cut). By AI agents, Wed Nov 11 2026. No macro, syntax, notation, axiom, sorry.
-/
import Derived.Test.YtdfbjdchnkhiiaaGreatDoorChecked
import GoSem.Claim
import GoSem.ClaimJoined
import GoSem.ClaimMapViews
import Derived.JoinedTies
import Derived.KernelRfl
namespace Go.Proofs.YtdfbjdchnkhiiaaGreatDoor
/- THE CELL 'sum', in the pinned program and in every row, IS THE sha256 OF THE DUMP (.gsa) THAT YtdfbjdchnkhiiaaGreatDoorProg.lean LOADS. Nothing in Lean hashes anything: it is a label: what it is worth is what the hold of that sum in a sandbox is worth. -/
noncomputable def Tryz.pinned : Pinned := { name := "ytdfbjdchnkhiiaagreatdoor", sum := "06680106b261eacc8fcaec15ba552a92e0c9525a489959d9b2fbbf9a9e86b79b", checked := Tryz.checked }
namespace Rows
def none {H : Type} : Left H := { results := [], args := [] }

/- WHAT THE LISTED PACKAGE-LEVEL VARIABLES READ AS WHEN THE CALL BEGINS. Each datum BY PROGRAM (the guide's laid-datum.mjs) off the statement by which the dump's own 'gosem.cut.vars' lays the variable. In a bare row this is a premise. The card (YtdfbjdchnkhiiaaGreatDoorCards.lean) ties it to the program's text. -/
def laid_perilune_fixed_sines {H : Type} : DataW H := .agg [.lit (.int .i64 8), .lit (.int .i64 (-483)), .lit (.int .i64 21534), .lit (.int .i64 (-628374)), .lit (.int .i64 10696163), .lit (.int .i64 (-86699834)), .lit (.int .i64 210828714)]

/-- 'perilunelaw21.InterpSteps': WHATEVER THE INPUT: true; the input reads as it did. -/
def interpStepsSpec : ChangeSpec := { name := "interpSteps", fn := fun _ => fun
  | [d1, d2, d3] => { results := [.lit (.bool true)], args := [d1, d2, d3] }
  | _ => none }
def interpStepsRow : OpenClaim := { program := "ytdfbjdchnkhiiaagreatdoor", sum := "06680106b261eacc8fcaec15ba552a92e0c9525a489959d9b2fbbf9a9e86b79b", func := "perilune/perilunelaw21.InterpSteps", spec := "interpSteps", unfollowed := true, recurses := true, named := ["perilune/fixed.sines"], apart := false, laid := [("perilune/fixed.sines", laid_perilune_fixed_sines)] }
def InterpStepsSaid : Prop := interpStepsRow.holds Tryz.pinned (OpenSpec.ofChange interpStepsSpec)

/-- ITS FALSE NEIGHBOUR: 'it returns false'. Refute it at one input. -/
def interpStepsWrong : ChangeSpec := { name := "interpSteps", fn := fun _ => fun
  | [d1, d2, d3] => { results := [.lit (.bool false)], args := [d1, d2, d3] }
  | _ => none }
def InterpStepsWrongFalsely : Prop := interpStepsRow.holds Tryz.pinned (OpenSpec.ofChange interpStepsWrong)

/-- 'perilunelaw21.InterpRuns': WHATEVER THE INPUT: true; the input reads as it did. -/
def interpRunsSpec : ChangeSpec := { name := "interpRuns", fn := fun _ => fun
  | [d1, d2, d3, d4] => { results := [.lit (.bool true)], args := [d1, d2, d3, d4] }
  | _ => none }
def interpRunsRow : OpenClaim := { program := "ytdfbjdchnkhiiaagreatdoor", sum := "06680106b261eacc8fcaec15ba552a92e0c9525a489959d9b2fbbf9a9e86b79b", func := "perilune/perilunelaw21.InterpRuns", spec := "interpRuns", unfollowed := true, recurses := true, named := ["perilune/fixed.sines"], apart := false, laid := [("perilune/fixed.sines", laid_perilune_fixed_sines)] }
def InterpRunsSaid : Prop := interpRunsRow.holds Tryz.pinned (OpenSpec.ofChange interpRunsSpec)

/-- ITS FALSE NEIGHBOUR: 'it returns false'. Refute it at one input. -/
def interpRunsWrong : ChangeSpec := { name := "interpRuns", fn := fun _ => fun
  | [d1, d2, d3, d4] => { results := [.lit (.bool false)], args := [d1, d2, d3, d4] }
  | _ => none }
def InterpRunsWrongFalsely : Prop := interpRunsRow.holds Tryz.pinned (OpenSpec.ofChange interpRunsWrong)

/- THE SECOND FORM. 'bulk': how many values and letters a reading holds, each counted each time it is reached (what is shared counts as often as it is met; a slice's spare places count too). A statement '..UptoSaid' is the law's where the arguments, and the package variables that the reading takes, are together of bulk at most 1048576: NARROWER than '..Said'. Prove '..Said' where nothing that the law and all that it calls make is longer than what came in: it says more and counts as full. Else prove '..UptoSaid'. A law counts once. -/
mutual
def uptoBulk {H : Type} : DataW H → Nat
  | .lit (.string bytes) => bytes.length + 1
  | .lit _ => 1
  | .nil => 1
  | .ptr d => uptoBulk d + 1
  | .slice elems spare => uptoBulkAll elems + uptoBulkAll spare + 1
  | .agg parts => uptoBulkAll parts + 1
  | .iface _ d => uptoBulk d + 1
  | .map entries => uptoBulkEntries entries + 1
  | .held _ => 1
def uptoBulkAll {H : Type} : List (DataW H) → Nat
  | [] => 0
  | d :: r => uptoBulk d + uptoBulkAll r
def uptoBulkEntries {H : Type} : List (Lit × DataW H) → Nat
  | [] => 0
  | x :: r => uptoBulkEntry x + uptoBulkEntries r
def uptoBulkEntry {H : Type} : Lit × DataW H → Nat
  | (.string bytes, d) => bytes.length + uptoBulk d + 1
  | (_, d) => uptoBulk d + 1
 end
def uptoSmall : (H : Type) → List (DataW H) → Bool := fun _ ds => decide (uptoBulkAll ds ≤ 1048576)
def OpenSpec.upto (s : _root_.Go.ChangeSpec) : _root_.Go.OpenSpec := { _root_.Go.OpenSpec.ofChange s with cond := some uptoSmall }

/-- 'perilunelaw21.InterpSteps', WHERE WHAT IT READS IS OF BULK AT MOST 1048576: true; the input reads as it did. -/
def interpStepsUptoRow : OpenClaim := { program := "ytdfbjdchnkhiiaagreatdoor", sum := "06680106b261eacc8fcaec15ba552a92e0c9525a489959d9b2fbbf9a9e86b79b", func := "perilune/perilunelaw21.InterpSteps", spec := "interpSteps", unfollowed := true, recurses := true, named := ["perilune/fixed.sines"], apart := false, laid := [("perilune/fixed.sines", laid_perilune_fixed_sines)], narrowed := true }
def InterpStepsUptoSaid : Prop := interpStepsUptoRow.holds Tryz.pinned (OpenSpec.upto interpStepsSpec)

/-- 'perilunelaw21.InterpRuns', WHERE WHAT IT READS IS OF BULK AT MOST 1048576: true; the input reads as it did. -/
def interpRunsUptoRow : OpenClaim := { program := "ytdfbjdchnkhiiaagreatdoor", sum := "06680106b261eacc8fcaec15ba552a92e0c9525a489959d9b2fbbf9a9e86b79b", func := "perilune/perilunelaw21.InterpRuns", spec := "interpRuns", unfollowed := true, recurses := true, named := ["perilune/fixed.sines"], apart := false, laid := [("perilune/fixed.sines", laid_perilune_fixed_sines)], narrowed := true }
def InterpRunsUptoSaid : Prop := interpRunsUptoRow.holds Tryz.pinned (OpenSpec.upto interpRunsSpec)

end Rows
end Go.Proofs.YtdfbjdchnkhiiaaGreatDoor
