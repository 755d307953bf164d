/-
  NARROWER THAN 'FOR EVERY INPUT', by the rows' own cells (each row's printed sentence says how): EffectRuns: laid · EffectDepends: laid · EffectRepeats: laid.
  DERIVED. THE GIVEN ROWS OF THIS SEAT. 3 by the template 'for every input the law returns true; each argument reads behind the call as it read before'; 0 by the template 'total and deterministic' (their statements: YtfbcchjmgjafbaaGreatDoorTotals.lean).
  GIVEN WITH THE SEED: the statements are not yours to turn. If you find one false, say at which input.
  Laid BY PROGRAM, IN A SANDBOX (cutbox-rows.mjs): the forced cells as the released guide's own fill.sh prints them over the translation 96c34ad402a1798d… (all of the seat's roots in one cut). By AI agents, Wed Nov 11 2026. No macro, syntax, notation, axiom, sorry.
-/
import Derived.Test.YtfbcchjmgjafbaaGreatDoorChecked
import GoSem.Claim
import GoSem.ClaimJoined
import GoSem.ClaimMapViews
import Derived.JoinedTies
import Derived.KernelRfl
namespace Go.Proofs.YtfbcchjmgjafbaaGreatDoor
/- THE CELL 'sum', in the pinned program and in every row, IS THE sha256 OF THE DUMP (.gsa) THAT YtfbcchjmgjafbaaGreatDoorProg.lean LOADS. Nothing in Lean hashes anything: it is a label: what it is worth is what the hold of that sum in a sandbox is worth. -/
noncomputable def Tryz.pinned : Pinned := { name := "ytfbcchjmgjafbaagreatdoor", sum := "96c34ad402a1798de9db5bd58179c54b08ef1101e94cdeeb1d80ed1361b779db", checked := Tryz.checked }
namespace Rows
def none {H : Type} : Left H := { results := [], args := [] }

/- WHAT THE LISTED PACKAGE-LEVEL VARIABLES READ AS WHEN THE CALL BEGINS. Each datum BY PROGRAM (the guide's laid-datum.mjs) off the statement by which the dump's own 'gosem.cut.vars' lays the variable. In a bare row this is a premise. The card (YtfbcchjmgjafbaaGreatDoorCards.lean) ties it to the program's text. -/
def laid_perilune_fixed_sines {H : Type} : DataW H := .agg [.lit (.int .i64 8), .lit (.int .i64 (-483)), .lit (.int .i64 21534), .lit (.int .i64 (-628374)), .lit (.int .i64 10696163), .lit (.int .i64 (-86699834)), .lit (.int .i64 210828714)]

/-- 'perilunelaw22.EffectRuns': WHATEVER THE INPUT: true; the input reads as it did. -/
def effectRunsSpec : ChangeSpec := { name := "effectRuns", fn := fun _ => fun
  | [d1, d2] => { results := [.lit (.bool true)], args := [d1, d2] }
  | _ => none }
def effectRunsRow : OpenClaim := { program := "ytfbcchjmgjafbaagreatdoor", sum := "96c34ad402a1798de9db5bd58179c54b08ef1101e94cdeeb1d80ed1361b779db", func := "perilune/perilunelaw22.EffectRuns", spec := "effectRuns", unfollowed := true, recurses := true, named := ["perilune/fixed.sines"], apart := false, laid := [("perilune/fixed.sines", laid_perilune_fixed_sines)] }
def EffectRunsSaid : Prop := effectRunsRow.holds Tryz.pinned (OpenSpec.ofChange effectRunsSpec)

/-- ITS FALSE NEIGHBOUR: 'it returns false'. Refute it at one input. -/
def effectRunsWrong : ChangeSpec := { name := "effectRuns", fn := fun _ => fun
  | [d1, d2] => { results := [.lit (.bool false)], args := [d1, d2] }
  | _ => none }
def EffectRunsWrongFalsely : Prop := effectRunsRow.holds Tryz.pinned (OpenSpec.ofChange effectRunsWrong)

/-- 'perilunelaw22.EffectDepends': WHATEVER THE INPUT: true; the input reads as it did. -/
def effectDependsSpec : ChangeSpec := { name := "effectDepends", fn := fun _ => fun
  | [d1, d2, d3] => { results := [.lit (.bool true)], args := [d1, d2, d3] }
  | _ => none }
def effectDependsRow : OpenClaim := { program := "ytfbcchjmgjafbaagreatdoor", sum := "96c34ad402a1798de9db5bd58179c54b08ef1101e94cdeeb1d80ed1361b779db", func := "perilune/perilunelaw22.EffectDepends", spec := "effectDepends", unfollowed := true, recurses := true, named := ["perilune/fixed.sines"], apart := false, laid := [("perilune/fixed.sines", laid_perilune_fixed_sines)] }
def EffectDependsSaid : Prop := effectDependsRow.holds Tryz.pinned (OpenSpec.ofChange effectDependsSpec)

/-- ITS FALSE NEIGHBOUR: 'it returns false'. Refute it at one input. -/
def effectDependsWrong : ChangeSpec := { name := "effectDepends", fn := fun _ => fun
  | [d1, d2, d3] => { results := [.lit (.bool false)], args := [d1, d2, d3] }
  | _ => none }
def EffectDependsWrongFalsely : Prop := effectDependsRow.holds Tryz.pinned (OpenSpec.ofChange effectDependsWrong)

/-- 'perilunelaw22.EffectRepeats': WHATEVER THE INPUT: true; the input reads as it did. -/
def effectRepeatsSpec : ChangeSpec := { name := "effectRepeats", fn := fun _ => fun
  | [d1, d2, d3] => { results := [.lit (.bool true)], args := [d1, d2, d3] }
  | _ => none }
def effectRepeatsRow : OpenClaim := { program := "ytfbcchjmgjafbaagreatdoor", sum := "96c34ad402a1798de9db5bd58179c54b08ef1101e94cdeeb1d80ed1361b779db", func := "perilune/perilunelaw22.EffectRepeats", spec := "effectRepeats", unfollowed := true, recurses := true, named := ["perilune/fixed.sines"], apart := false, laid := [("perilune/fixed.sines", laid_perilune_fixed_sines)] }
def EffectRepeatsSaid : Prop := effectRepeatsRow.holds Tryz.pinned (OpenSpec.ofChange effectRepeatsSpec)

/-- ITS FALSE NEIGHBOUR: 'it returns false'. Refute it at one input. -/
def effectRepeatsWrong : ChangeSpec := { name := "effectRepeats", fn := fun _ => fun
  | [d1, d2, d3] => { results := [.lit (.bool false)], args := [d1, d2, d3] }
  | _ => none }
def EffectRepeatsWrongFalsely : Prop := effectRepeatsRow.holds Tryz.pinned (OpenSpec.ofChange effectRepeatsWrong)

/- THE SECOND FORM. 'bulk': how many values and letters a reading holds, each counted each time it is reached (what is shared counts as often as it is met; a slice's spare places count too). A statement '..UptoSaid' is the law's where the arguments, and the package variables that the reading takes, are together of bulk at most 1048576: NARROWER than '..Said'. Prove '..Said' where nothing that the law and all that it calls make is longer than what came in: it says more and counts as full. Else prove '..UptoSaid'. A law counts once. -/
mutual
def uptoBulk {H : Type} : DataW H → Nat
  | .lit (.string bytes) => bytes.length + 1
  | .lit _ => 1
  | .nil => 1
  | .ptr d => uptoBulk d + 1
  | .slice elems spare => uptoBulkAll elems + uptoBulkAll spare + 1
  | .agg parts => uptoBulkAll parts + 1
  | .iface _ d => uptoBulk d + 1
  | .map entries => uptoBulkEntries entries + 1
  | .held _ => 1
def uptoBulkAll {H : Type} : List (DataW H) → Nat
  | [] => 0
  | d :: r => uptoBulk d + uptoBulkAll r
def uptoBulkEntries {H : Type} : List (Lit × DataW H) → Nat
  | [] => 0
  | x :: r => uptoBulkEntry x + uptoBulkEntries r
def uptoBulkEntry {H : Type} : Lit × DataW H → Nat
  | (.string bytes, d) => bytes.length + uptoBulk d + 1
  | (_, d) => uptoBulk d + 1
 end
def uptoSmall : (H : Type) → List (DataW H) → Bool := fun _ ds => decide (uptoBulkAll ds ≤ 1048576)
def OpenSpec.upto (s : _root_.Go.ChangeSpec) : _root_.Go.OpenSpec := { _root_.Go.OpenSpec.ofChange s with cond := some uptoSmall }

/-- 'perilunelaw22.EffectRuns', WHERE WHAT IT READS IS OF BULK AT MOST 1048576: true; the input reads as it did. -/
def effectRunsUptoRow : OpenClaim := { program := "ytfbcchjmgjafbaagreatdoor", sum := "96c34ad402a1798de9db5bd58179c54b08ef1101e94cdeeb1d80ed1361b779db", func := "perilune/perilunelaw22.EffectRuns", spec := "effectRuns", unfollowed := true, recurses := true, named := ["perilune/fixed.sines"], apart := false, laid := [("perilune/fixed.sines", laid_perilune_fixed_sines)], narrowed := true }
def EffectRunsUptoSaid : Prop := effectRunsUptoRow.holds Tryz.pinned (OpenSpec.upto effectRunsSpec)

/-- 'perilunelaw22.EffectDepends', WHERE WHAT IT READS IS OF BULK AT MOST 1048576: true; the input reads as it did. -/
def effectDependsUptoRow : OpenClaim := { program := "ytfbcchjmgjafbaagreatdoor", sum := "96c34ad402a1798de9db5bd58179c54b08ef1101e94cdeeb1d80ed1361b779db", func := "perilune/perilunelaw22.EffectDepends", spec := "effectDepends", unfollowed := true, recurses := true, named := ["perilune/fixed.sines"], apart := false, laid := [("perilune/fixed.sines", laid_perilune_fixed_sines)], narrowed := true }
def EffectDependsUptoSaid : Prop := effectDependsUptoRow.holds Tryz.pinned (OpenSpec.upto effectDependsSpec)

/-- 'perilunelaw22.EffectRepeats', WHERE WHAT IT READS IS OF BULK AT MOST 1048576: true; the input reads as it did. -/
def effectRepeatsUptoRow : OpenClaim := { program := "ytfbcchjmgjafbaagreatdoor", sum := "96c34ad402a1798de9db5bd58179c54b08ef1101e94cdeeb1d80ed1361b779db", func := "perilune/perilunelaw22.EffectRepeats", spec := "effectRepeats", unfollowed := true, recurses := true, named := ["perilune/fixed.sines"], apart := false, laid := [("perilune/fixed.sines", laid_perilune_fixed_sines)], narrowed := true }
def EffectRepeatsUptoSaid : Prop := effectRepeatsUptoRow.holds Tryz.pinned (OpenSpec.upto effectRepeatsSpec)

end Rows
end Go.Proofs.YtfbcchjmgjafbaaGreatDoor
