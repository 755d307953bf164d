/-
  No cell of these rows narrows 'for every input' (looked for: loops, veiled, ifaces, maps, wideKeys, modest, calm, conditions, laid).
  DERIVED. THE GIVEN ROWS OF THIS SEAT. 2 by the template 'for every input the law returns true; each argument reads behind the call as it read before'; 0 by the template 'total and deterministic' (their statements: YtfbcchjmgjafbaaTotals.lean).
  GIVEN WITH THE SEED: the statements are not yours to turn. If you find one false, say at which input.
  Laid BY PROGRAM, IN A SANDBOX (cutbox-rows.mjs): the forced cells as the released guide's own fill.sh prints them over the translation dfc979f94a549c55… (all of the seat's roots in one cut). By AI agents, Wed Nov 11 2026. No macro, syntax, notation, axiom, sorry.
-/
import Derived.Test.YtfbcchjmgjafbaaChecked
import GoSem.Claim
import GoSem.ClaimJoined
import GoSem.ClaimMapViews
import Derived.JoinedTies
import Derived.KernelRfl
namespace Go.Proofs.Ytfbcchjmgjafbaa
/- THE CELL 'sum', in the pinned program and in every row, IS THE sha256 OF THE DUMP (.gsa) THAT YtfbcchjmgjafbaaProg.lean LOADS. Nothing in Lean hashes anything: it is a label: what it is worth is what the hold of that sum in a sandbox is worth. -/
noncomputable def Try.pinned : Pinned := { name := "ytfbcchjmgjafbaa", sum := "dfc979f94a549c55e55461645fbf125cf43c119e204f7a9751fd02da692692b3", checked := Try.checked }
namespace Rows
def none {H : Type} : Left H := { results := [], args := [] }

/-- 'perilunelaw22.EffectPath': WHATEVER THE INPUT: true; the input reads as it did. -/
def effectPathSpec : ChangeSpec := { name := "effectPath", fn := fun _ => fun
  | [d1, d2] => { results := [.lit (.bool true)], args := [d1, d2] }
  | _ => none }
def effectPathRow : OpenClaim := { program := "ytfbcchjmgjafbaa", sum := "dfc979f94a549c55e55461645fbf125cf43c119e204f7a9751fd02da692692b3", func := "perilune/perilunelaw22.EffectPath", spec := "effectPath", unfollowed := true, recurses := true, apart := false }
def EffectPathSaid : Prop := effectPathRow.holds Try.pinned (OpenSpec.ofChange effectPathSpec)

/-- ITS FALSE NEIGHBOUR: 'it returns false'. Refute it at one input. -/
def effectPathWrong : ChangeSpec := { name := "effectPath", fn := fun _ => fun
  | [d1, d2] => { results := [.lit (.bool false)], args := [d1, d2] }
  | _ => none }
def EffectPathWrongFalsely : Prop := effectPathRow.holds Try.pinned (OpenSpec.ofChange effectPathWrong)

/-- 'perilunelaw22.EffectUnit': WHATEVER THE INPUT: true; the input reads as it did. -/
def effectUnitSpec : ChangeSpec := { name := "effectUnit", fn := fun _ => fun
  | [d] => { results := [.lit (.bool true)], args := [d] }
  | _ => none }
def effectUnitRow : OpenClaim := { program := "ytfbcchjmgjafbaa", sum := "dfc979f94a549c55e55461645fbf125cf43c119e204f7a9751fd02da692692b3", func := "perilune/perilunelaw22.EffectUnit", spec := "effectUnit", unfollowed := true, recurses := true, apart := false }
def EffectUnitSaid : Prop := effectUnitRow.holds Try.pinned (OpenSpec.ofChange effectUnitSpec)

/-- ITS FALSE NEIGHBOUR: 'it returns false'. Refute it at one input. -/
def effectUnitWrong : ChangeSpec := { name := "effectUnit", fn := fun _ => fun
  | [d] => { results := [.lit (.bool false)], args := [d] }
  | _ => none }
def EffectUnitWrongFalsely : Prop := effectUnitRow.holds Try.pinned (OpenSpec.ofChange effectUnitWrong)

/- THE SECOND FORM. 'bulk': how many values and letters a reading holds, each counted each time it is reached (what is shared counts as often as it is met; a slice's spare places count too). A statement '..UptoSaid' is the law's where the arguments, and the package variables that the reading takes, are together of bulk at most 1048576: NARROWER than '..Said'. Prove '..Said' where nothing that the law and all that it calls make is longer than what came in: it says more and counts as full. Else prove '..UptoSaid'. A law counts once. -/
mutual
def uptoBulk {H : Type} : DataW H → Nat
  | .lit (.string bytes) => bytes.length + 1
  | .lit _ => 1
  | .nil => 1
  | .ptr d => uptoBulk d + 1
  | .slice elems spare => uptoBulkAll elems + uptoBulkAll spare + 1
  | .agg parts => uptoBulkAll parts + 1
  | .iface _ d => uptoBulk d + 1
  | .map entries => uptoBulkEntries entries + 1
  | .held _ => 1
def uptoBulkAll {H : Type} : List (DataW H) → Nat
  | [] => 0
  | d :: r => uptoBulk d + uptoBulkAll r
def uptoBulkEntries {H : Type} : List (Lit × DataW H) → Nat
  | [] => 0
  | x :: r => uptoBulkEntry x + uptoBulkEntries r
def uptoBulkEntry {H : Type} : Lit × DataW H → Nat
  | (.string bytes, d) => bytes.length + uptoBulk d + 1
  | (_, d) => uptoBulk d + 1
 end
def uptoSmall : (H : Type) → List (DataW H) → Bool := fun _ ds => decide (uptoBulkAll ds ≤ 1048576)
def OpenSpec.upto (s : _root_.Go.ChangeSpec) : _root_.Go.OpenSpec := { _root_.Go.OpenSpec.ofChange s with cond := some uptoSmall }

/-- 'perilunelaw22.EffectPath', WHERE WHAT IT READS IS OF BULK AT MOST 1048576: true; the input reads as it did. -/
def effectPathUptoRow : OpenClaim := { program := "ytfbcchjmgjafbaa", sum := "dfc979f94a549c55e55461645fbf125cf43c119e204f7a9751fd02da692692b3", func := "perilune/perilunelaw22.EffectPath", spec := "effectPath", unfollowed := true, recurses := true, apart := false, narrowed := true }
def EffectPathUptoSaid : Prop := effectPathUptoRow.holds Try.pinned (OpenSpec.upto effectPathSpec)

/-- 'perilunelaw22.EffectUnit', WHERE WHAT IT READS IS OF BULK AT MOST 1048576: true; the input reads as it did. -/
def effectUnitUptoRow : OpenClaim := { program := "ytfbcchjmgjafbaa", sum := "dfc979f94a549c55e55461645fbf125cf43c119e204f7a9751fd02da692692b3", func := "perilune/perilunelaw22.EffectUnit", spec := "effectUnit", unfollowed := true, recurses := true, apart := false, narrowed := true }
def EffectUnitUptoSaid : Prop := effectUnitUptoRow.holds Try.pinned (OpenSpec.upto effectUnitSpec)

end Rows
end Go.Proofs.Ytfbcchjmgjafbaa
