/-
  What operations ask of the program's types, as a table; how the table is computed from the program; the model's small programs on types, run.
-/
import Derived.Test.YtdfbjdchnkhiiaaDoorPvRel
import Derived.Laws.StructEq
import Derived.Laws.Cells
import Derived.ChangeKeysEq
namespace Go.Pv

/-- A constant of the code. -/
def V.ofValue : Value → V
  | .bool b => .bool b
  | .int k n => .int k n
  | .string s => .str s
  | .slice none 0 0 => .nils
  | .pointer none => .nilp
  | .nilFunc => .nilf
  | .map none => .nilm
  | _ => .dead

theorem RV.ofValue {β : Nat → Option Loc} {M : Mem} {Z : Nat → Prop} {h : Heap} (v : Value) : RV β M Z h (V.ofValue v) v := by
  unfold V.ofValue; split <;> constructor

/-- a field: its place, its type, is it blank? -/
structure Fd where
  off : Nat
  type : TypeId
  blank : Bool

inductive K where
  | bad | other | bool | str
  | int (k : IntKind)
  | struct (fs : List Fd)
  | array (n : Nat) (e : TypeId)
  | slice (e : TypeId)

def K.of : TypeDesc → K
  | .bool => .bool
  | .int k => .int k
  | .string => .str
  | .struct fs => .struct (fs.toList.map fun f => ⟨f.offset, f.type, f.name == "_"⟩)
  | .array n e => .array n e
  | .slice e => .slice e
  | _ => .other

def K.agg : K → Bool
  | .struct _ => true
  | .array _ _ => true
  | _ => false

def tyOf (P : Program) : Nat → TypeId → Option Ty
  | 0, _ => none
  | n + 1, t =>
    match P.underlying t with
    | some .bool => some .bool
    | some (.int k) => some (.int k)
    | some .string => some .str
    | some (.slice e) => (tyOf P n e).map .slice
    | some (.array len e) => (tyOf P n e).map (Ty.arr len)
    | some (.struct fs) => (fs.toList.mapM fun f => tyOf P n f.type).map Ty.tup
    | _ => none

structure TT where
  kind : K
  size : Nat
  bytes : Nat
  zero : Option (List V)
  ty : Option Ty
  eqok : Bool

def TT.bad : TT := ⟨.bad, 0, 0, none, none, false⟩

def TT.of (P : Program) (t : TypeId) : TT :=
  match P.info? t, P.underlying t with
  | some i, some d => ⟨K.of d, i.size, i.bytes, i.zero.map fun z => z.cells.toList.map V.ofValue, tyOf P 12 t, !(P.eqGuardType P.depth t) && !(P.stoodInHeld t)⟩
  | _, _ => TT.bad

/-- what the table tells of a type that is not bad -/
theorem TT.of_ok {P : Program} {t : TypeId} (h : (TT.of P t).kind ≠ .bad) : ∃ i d, P.info? t = some i ∧ P.underlying t = some d ∧
    (TT.of P t).kind = K.of d ∧ (TT.of P t).size = i.size ∧ (TT.of P t).bytes = i.bytes ∧ (TT.of P t).zero = i.zero.map (fun z => z.cells.toList.map V.ofValue) ∧
    (TT.of P t).ty = tyOf P 12 t ∧ (TT.of P t).eqok = (!(P.eqGuardType P.depth t) && !(P.stoodInHeld t)) := by
  unfold TT.of at h ⊢
  cases h1 : P.info? t with
  | none => simp [h1, TT.bad] at h
  | some i => cases h2 : P.underlying t with
    | none => simp [h1, h2, TT.bad] at h
    | some d => exact ⟨i, d, rfl, rfl, rfl, rfl, rfl, rfl, rfl, rfl⟩

section
variable {P : Program} {w : World}

theorem run_isAgg {t : TypeId} {d : TypeDesc} (h : P.underlying t = some d) : (isAgg t).run P w = .ok (K.of d).agg w := by
  unfold isAgg
  simp only [Sem.run_bind, run_underlying h, Result.andThen_ok]
  cases d <;> rfl

theorem run_sizeOf' {t : TypeId} {i : TypeInfo} (h : P.info? t = some i) : (sizeOf t).run P w = .ok i.size w := by
  simp [sizeOf, run_typeInfo (w := w) h]

theorem run_zeroValue' {t : TypeId} {i : TypeInfo} {z : Value} (h : P.info? t = some i) (hz : i.zero = some z) : (zeroValue t).run P w = .ok z w := by
  simp [zeroValue, run_typeInfo (w := w) h, hz]

end
end Go.Pv
