/-
  No cell of these rows narrows 'for every input' (looked for: loops, veiled, ifaces, maps, wideKeys, modest, calm, conditions, laid).
  DERIVED. THE GIVEN ROWS OF THIS SEAT. 8 by the template 'for every input the law returns true; each argument reads behind the call as it read before'; 0 by the template 'total and deterministic' (their statements: YtidbhhfilhognaaTotals.lean).
  GIVEN WITH THE SEED: the statements are not yours to turn. If you find one false, say at which input.
  Laid BY PROGRAM, IN A SANDBOX (cutbox-rows.mjs): the forced cells as the released guide's own fill.sh prints them over the translation 242b2f29a104313a… (all of the seat's roots in one cut). By AI agents, Wed Nov 11 2026. No macro, syntax, notation, axiom, sorry.
-/
import Derived.Test.YtidbhhfilhognaaChecked
import GoSem.Claim
import GoSem.ClaimJoined
import GoSem.ClaimMapViews
import Derived.JoinedTies
import Derived.KernelRfl
namespace Go.Proofs.Ytidbhhfilhognaa
/- THE CELL 'sum', in the pinned program and in every row, IS THE sha256 OF THE DUMP (.gsa) THAT YtidbhhfilhognaaProg.lean LOADS. Nothing in Lean hashes anything: it is a label: what it is worth is what the hold of that sum in a sandbox is worth. -/
noncomputable def Try.pinned : Pinned := { name := "ytidbhhfilhognaa", sum := "242b2f29a104313ab3444b7ddc2ecb43057d61c3686e0d8021a72bf13e0d4ba0", checked := Try.checked }
namespace Rows
def none {H : Type} : Left H := { results := [], args := [] }

/-- 'perilunelaw18.IcodeEncodes': WHATEVER THE INPUT: true; the input reads as it did. -/
def icodeEncodesSpec : ChangeSpec := { name := "icodeEncodes", fn := fun _ => fun
  | [d] => { results := [.lit (.bool true)], args := [d] }
  | _ => none }
def icodeEncodesRow : OpenClaim := { program := "ytidbhhfilhognaa", sum := "242b2f29a104313ab3444b7ddc2ecb43057d61c3686e0d8021a72bf13e0d4ba0", func := "perilune/perilunelaw18.IcodeEncodes", spec := "icodeEncodes", unfollowed := true, recurses := true, apart := false }
def IcodeEncodesSaid : Prop := icodeEncodesRow.holds Try.pinned (OpenSpec.ofChange icodeEncodesSpec)

/-- ITS FALSE NEIGHBOUR: 'it returns false'. Refute it at one input. -/
def icodeEncodesWrong : ChangeSpec := { name := "icodeEncodes", fn := fun _ => fun
  | [d] => { results := [.lit (.bool false)], args := [d] }
  | _ => none }
def IcodeEncodesWrongFalsely : Prop := icodeEncodesRow.holds Try.pinned (OpenSpec.ofChange icodeEncodesWrong)

/-- 'perilunelaw18.IcodeDecodes': WHATEVER THE INPUT: true; the input reads as it did. -/
def icodeDecodesSpec : ChangeSpec := { name := "icodeDecodes", fn := fun _ => fun
  | [d1, d2] => { results := [.lit (.bool true)], args := [d1, d2] }
  | _ => none }
def icodeDecodesRow : OpenClaim := { program := "ytidbhhfilhognaa", sum := "242b2f29a104313ab3444b7ddc2ecb43057d61c3686e0d8021a72bf13e0d4ba0", func := "perilune/perilunelaw18.IcodeDecodes", spec := "icodeDecodes", unfollowed := true, recurses := true, apart := false }
def IcodeDecodesSaid : Prop := icodeDecodesRow.holds Try.pinned (OpenSpec.ofChange icodeDecodesSpec)

/-- ITS FALSE NEIGHBOUR: 'it returns false'. Refute it at one input. -/
def icodeDecodesWrong : ChangeSpec := { name := "icodeDecodes", fn := fun _ => fun
  | [d1, d2] => { results := [.lit (.bool false)], args := [d1, d2] }
  | _ => none }
def IcodeDecodesWrongFalsely : Prop := icodeDecodesRow.holds Try.pinned (OpenSpec.ofChange icodeDecodesWrong)

/-- 'perilunelaw18.IcodeBack': WHATEVER THE INPUT: true; the input reads as it did. -/
def icodeBackSpec : ChangeSpec := { name := "icodeBack", fn := fun _ => fun
  | [d1, d2, d3] => { results := [.lit (.bool true)], args := [d1, d2, d3] }
  | _ => none }
def icodeBackRow : OpenClaim := { program := "ytidbhhfilhognaa", sum := "242b2f29a104313ab3444b7ddc2ecb43057d61c3686e0d8021a72bf13e0d4ba0", func := "perilune/perilunelaw18.IcodeBack", spec := "icodeBack", unfollowed := true, recurses := true, apart := false }
def IcodeBackSaid : Prop := icodeBackRow.holds Try.pinned (OpenSpec.ofChange icodeBackSpec)

/-- ITS FALSE NEIGHBOUR: 'it returns false'. Refute it at one input. -/
def icodeBackWrong : ChangeSpec := { name := "icodeBack", fn := fun _ => fun
  | [d1, d2, d3] => { results := [.lit (.bool false)], args := [d1, d2, d3] }
  | _ => none }
def IcodeBackWrongFalsely : Prop := icodeBackRow.holds Try.pinned (OpenSpec.ofChange icodeBackWrong)

/-- 'perilunelaw18.IcodeTables': WHATEVER THE INPUT: true; the input reads as it did. -/
def icodeTablesSpec : ChangeSpec := { name := "icodeTables", fn := fun _ => fun
  | [d1, d2] => { results := [.lit (.bool true)], args := [d1, d2] }
  | _ => none }
def icodeTablesRow : OpenClaim := { program := "ytidbhhfilhognaa", sum := "242b2f29a104313ab3444b7ddc2ecb43057d61c3686e0d8021a72bf13e0d4ba0", func := "perilune/perilunelaw18.IcodeTables", spec := "icodeTables", unfollowed := true, recurses := true, apart := false }
def IcodeTablesSaid : Prop := icodeTablesRow.holds Try.pinned (OpenSpec.ofChange icodeTablesSpec)

/-- ITS FALSE NEIGHBOUR: 'it returns false'. Refute it at one input. -/
def icodeTablesWrong : ChangeSpec := { name := "icodeTables", fn := fun _ => fun
  | [d1, d2] => { results := [.lit (.bool false)], args := [d1, d2] }
  | _ => none }
def IcodeTablesWrongFalsely : Prop := icodeTablesRow.holds Try.pinned (OpenSpec.ofChange icodeTablesWrong)

/-- 'perilunelaw18.IcodeKnown': WHATEVER THE INPUT: true; the input reads as it did. -/
def icodeKnownSpec : ChangeSpec := { name := "icodeKnown", fn := fun _ => fun
  | [] => { results := [.lit (.bool true)], args := [] }
  | _ => none }
def icodeKnownRow : OpenClaim := { program := "ytidbhhfilhognaa", sum := "242b2f29a104313ab3444b7ddc2ecb43057d61c3686e0d8021a72bf13e0d4ba0", func := "perilune/perilunelaw18.IcodeKnown", spec := "icodeKnown", unfollowed := true, recurses := true, apart := false }
def IcodeKnownSaid : Prop := icodeKnownRow.holds Try.pinned (OpenSpec.ofChange icodeKnownSpec)

/-- ITS FALSE NEIGHBOUR: 'it returns false'. Refute it at one input. -/
def icodeKnownWrong : ChangeSpec := { name := "icodeKnown", fn := fun _ => fun
  | [] => { results := [.lit (.bool false)], args := [] }
  | _ => none }
def IcodeKnownWrongFalsely : Prop := icodeKnownRow.holds Try.pinned (OpenSpec.ofChange icodeKnownWrong)

/-- 'perilunelaw18.IcodeLists': WHATEVER THE INPUT: true; the input reads as it did. -/
def icodeListsSpec : ChangeSpec := { name := "icodeLists", fn := fun _ => fun
  | [d1, d2] => { results := [.lit (.bool true)], args := [d1, d2] }
  | _ => none }
def icodeListsRow : OpenClaim := { program := "ytidbhhfilhognaa", sum := "242b2f29a104313ab3444b7ddc2ecb43057d61c3686e0d8021a72bf13e0d4ba0", func := "perilune/perilunelaw18.IcodeLists", spec := "icodeLists", unfollowed := true, recurses := true, apart := false }
def IcodeListsSaid : Prop := icodeListsRow.holds Try.pinned (OpenSpec.ofChange icodeListsSpec)

/-- ITS FALSE NEIGHBOUR: 'it returns false'. Refute it at one input. -/
def icodeListsWrong : ChangeSpec := { name := "icodeLists", fn := fun _ => fun
  | [d1, d2] => { results := [.lit (.bool false)], args := [d1, d2] }
  | _ => none }
def IcodeListsWrongFalsely : Prop := icodeListsRow.holds Try.pinned (OpenSpec.ofChange icodeListsWrong)

/-- 'perilunelaw18.IcodeWhole': WHATEVER THE INPUT: true; the input reads as it did. -/
def icodeWholeSpec : ChangeSpec := { name := "icodeWhole", fn := fun _ => fun
  | [d1, d2] => { results := [.lit (.bool true)], args := [d1, d2] }
  | _ => none }
def icodeWholeRow : OpenClaim := { program := "ytidbhhfilhognaa", sum := "242b2f29a104313ab3444b7ddc2ecb43057d61c3686e0d8021a72bf13e0d4ba0", func := "perilune/perilunelaw18.IcodeWhole", spec := "icodeWhole", unfollowed := true, recurses := true, apart := false }
def IcodeWholeSaid : Prop := icodeWholeRow.holds Try.pinned (OpenSpec.ofChange icodeWholeSpec)

/-- ITS FALSE NEIGHBOUR: 'it returns false'. Refute it at one input. -/
def icodeWholeWrong : ChangeSpec := { name := "icodeWhole", fn := fun _ => fun
  | [d1, d2] => { results := [.lit (.bool false)], args := [d1, d2] }
  | _ => none }
def IcodeWholeWrongFalsely : Prop := icodeWholeRow.holds Try.pinned (OpenSpec.ofChange icodeWholeWrong)

/-- 'perilunelaw18.IcodePrefixes': WHATEVER THE INPUT: true; the input reads as it did. -/
def icodePrefixesSpec : ChangeSpec := { name := "icodePrefixes", fn := fun _ => fun
  | [d1, d2] => { results := [.lit (.bool true)], args := [d1, d2] }
  | _ => none }
def icodePrefixesRow : OpenClaim := { program := "ytidbhhfilhognaa", sum := "242b2f29a104313ab3444b7ddc2ecb43057d61c3686e0d8021a72bf13e0d4ba0", func := "perilune/perilunelaw18.IcodePrefixes", spec := "icodePrefixes", unfollowed := true, recurses := true, apart := false }
def IcodePrefixesSaid : Prop := icodePrefixesRow.holds Try.pinned (OpenSpec.ofChange icodePrefixesSpec)

/-- ITS FALSE NEIGHBOUR: 'it returns false'. Refute it at one input. -/
def icodePrefixesWrong : ChangeSpec := { name := "icodePrefixes", fn := fun _ => fun
  | [d1, d2] => { results := [.lit (.bool false)], args := [d1, d2] }
  | _ => none }
def IcodePrefixesWrongFalsely : Prop := icodePrefixesRow.holds Try.pinned (OpenSpec.ofChange icodePrefixesWrong)

/- THE SECOND FORM. 'bulk': how many values and letters a reading holds, each counted each time it is reached (what is shared counts as often as it is met; a slice's spare places count too). A statement '..UptoSaid' is the law's where the arguments, and the package variables that the reading takes, are together of bulk at most 1048576: NARROWER than '..Said'. Prove '..Said' where nothing that the law and all that it calls make is longer than what came in: it says more and counts as full. Else prove '..UptoSaid'. A law counts once. -/
mutual
def uptoBulk {H : Type} : DataW H → Nat
  | .lit (.string bytes) => bytes.length + 1
  | .lit _ => 1
  | .nil => 1
  | .ptr d => uptoBulk d + 1
  | .slice elems spare => uptoBulkAll elems + uptoBulkAll spare + 1
  | .agg parts => uptoBulkAll parts + 1
  | .iface _ d => uptoBulk d + 1
  | .map entries => uptoBulkEntries entries + 1
  | .held _ => 1
def uptoBulkAll {H : Type} : List (DataW H) → Nat
  | [] => 0
  | d :: r => uptoBulk d + uptoBulkAll r
def uptoBulkEntries {H : Type} : List (Lit × DataW H) → Nat
  | [] => 0
  | x :: r => uptoBulkEntry x + uptoBulkEntries r
def uptoBulkEntry {H : Type} : Lit × DataW H → Nat
  | (.string bytes, d) => bytes.length + uptoBulk d + 1
  | (_, d) => uptoBulk d + 1
 end
def uptoSmall : (H : Type) → List (DataW H) → Bool := fun _ ds => decide (uptoBulkAll ds ≤ 1048576)
def OpenSpec.upto (s : _root_.Go.ChangeSpec) : _root_.Go.OpenSpec := { _root_.Go.OpenSpec.ofChange s with cond := some uptoSmall }

/-- 'perilunelaw18.IcodeEncodes', WHERE WHAT IT READS IS OF BULK AT MOST 1048576: true; the input reads as it did. -/
def icodeEncodesUptoRow : OpenClaim := { program := "ytidbhhfilhognaa", sum := "242b2f29a104313ab3444b7ddc2ecb43057d61c3686e0d8021a72bf13e0d4ba0", func := "perilune/perilunelaw18.IcodeEncodes", spec := "icodeEncodes", unfollowed := true, recurses := true, apart := false, narrowed := true }
def IcodeEncodesUptoSaid : Prop := icodeEncodesUptoRow.holds Try.pinned (OpenSpec.upto icodeEncodesSpec)

/-- 'perilunelaw18.IcodeDecodes', WHERE WHAT IT READS IS OF BULK AT MOST 1048576: true; the input reads as it did. -/
def icodeDecodesUptoRow : OpenClaim := { program := "ytidbhhfilhognaa", sum := "242b2f29a104313ab3444b7ddc2ecb43057d61c3686e0d8021a72bf13e0d4ba0", func := "perilune/perilunelaw18.IcodeDecodes", spec := "icodeDecodes", unfollowed := true, recurses := true, apart := false, narrowed := true }
def IcodeDecodesUptoSaid : Prop := icodeDecodesUptoRow.holds Try.pinned (OpenSpec.upto icodeDecodesSpec)

/-- 'perilunelaw18.IcodeBack', WHERE WHAT IT READS IS OF BULK AT MOST 1048576: true; the input reads as it did. -/
def icodeBackUptoRow : OpenClaim := { program := "ytidbhhfilhognaa", sum := "242b2f29a104313ab3444b7ddc2ecb43057d61c3686e0d8021a72bf13e0d4ba0", func := "perilune/perilunelaw18.IcodeBack", spec := "icodeBack", unfollowed := true, recurses := true, apart := false, narrowed := true }
def IcodeBackUptoSaid : Prop := icodeBackUptoRow.holds Try.pinned (OpenSpec.upto icodeBackSpec)

/-- 'perilunelaw18.IcodeTables', WHERE WHAT IT READS IS OF BULK AT MOST 1048576: true; the input reads as it did. -/
def icodeTablesUptoRow : OpenClaim := { program := "ytidbhhfilhognaa", sum := "242b2f29a104313ab3444b7ddc2ecb43057d61c3686e0d8021a72bf13e0d4ba0", func := "perilune/perilunelaw18.IcodeTables", spec := "icodeTables", unfollowed := true, recurses := true, apart := false, narrowed := true }
def IcodeTablesUptoSaid : Prop := icodeTablesUptoRow.holds Try.pinned (OpenSpec.upto icodeTablesSpec)

/-- 'perilunelaw18.IcodeKnown', WHERE WHAT IT READS IS OF BULK AT MOST 1048576: true; the input reads as it did. -/
def icodeKnownUptoRow : OpenClaim := { program := "ytidbhhfilhognaa", sum := "242b2f29a104313ab3444b7ddc2ecb43057d61c3686e0d8021a72bf13e0d4ba0", func := "perilune/perilunelaw18.IcodeKnown", spec := "icodeKnown", unfollowed := true, recurses := true, apart := false, narrowed := true }
def IcodeKnownUptoSaid : Prop := icodeKnownUptoRow.holds Try.pinned (OpenSpec.upto icodeKnownSpec)

/-- 'perilunelaw18.IcodeLists', WHERE WHAT IT READS IS OF BULK AT MOST 1048576: true; the input reads as it did. -/
def icodeListsUptoRow : OpenClaim := { program := "ytidbhhfilhognaa", sum := "242b2f29a104313ab3444b7ddc2ecb43057d61c3686e0d8021a72bf13e0d4ba0", func := "perilune/perilunelaw18.IcodeLists", spec := "icodeLists", unfollowed := true, recurses := true, apart := false, narrowed := true }
def IcodeListsUptoSaid : Prop := icodeListsUptoRow.holds Try.pinned (OpenSpec.upto icodeListsSpec)

/-- 'perilunelaw18.IcodeWhole', WHERE WHAT IT READS IS OF BULK AT MOST 1048576: true; the input reads as it did. -/
def icodeWholeUptoRow : OpenClaim := { program := "ytidbhhfilhognaa", sum := "242b2f29a104313ab3444b7ddc2ecb43057d61c3686e0d8021a72bf13e0d4ba0", func := "perilune/perilunelaw18.IcodeWhole", spec := "icodeWhole", unfollowed := true, recurses := true, apart := false, narrowed := true }
def IcodeWholeUptoSaid : Prop := icodeWholeUptoRow.holds Try.pinned (OpenSpec.upto icodeWholeSpec)

/-- 'perilunelaw18.IcodePrefixes', WHERE WHAT IT READS IS OF BULK AT MOST 1048576: true; the input reads as it did. -/
def icodePrefixesUptoRow : OpenClaim := { program := "ytidbhhfilhognaa", sum := "242b2f29a104313ab3444b7ddc2ecb43057d61c3686e0d8021a72bf13e0d4ba0", func := "perilune/perilunelaw18.IcodePrefixes", spec := "icodePrefixes", unfollowed := true, recurses := true, apart := false, narrowed := true }
def IcodePrefixesUptoSaid : Prop := icodePrefixesUptoRow.holds Try.pinned (OpenSpec.upto icodePrefixesSpec)

end Rows
end Go.Proofs.Ytidbhhfilhognaa
