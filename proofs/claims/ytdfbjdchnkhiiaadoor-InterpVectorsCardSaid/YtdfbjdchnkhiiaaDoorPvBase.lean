/-
  Abstract values, typed data, blocks and states: the ground of a method of this session's own (no project text).
-/
import Derived.Calls
import Derived.Tactics
namespace Go.Pv

/-! ### Typed data -/
inductive Ty where
  | unit | bool | str
  | int (k : IntKind)
  | pair (a b : Ty)
  | slice (e : Ty)
  deriving DecidableEq

@[reducible] def Ty.den : Ty → Type
  | .unit => Unit
  | .bool => Bool
  | .str => ByteArray
  | .int _ => Int
  | .pair a b => a.den × b.den
  | .slice e => List e.den

def Ty.size : Ty → Nat
  | .unit => 0
  | .bool => 1
  | .str => 1
  | .int _ => 1
  | .pair a b => a.size + b.size
  | .slice _ => 1

/-- A tuple of types, right-nested, ended by nothing (its last component stands bare). -/
def Ty.tup : List Ty → Ty
  | [] => .unit
  | [a] => a
  | a :: b :: r => .pair a (Ty.tup (b :: r))

/-- n copies. -/
def Ty.arr (n : Nat) (a : Ty) : Ty := Ty.tup (List.replicate n a)

def Ty.dflt : (τ : Ty) → τ.den
  | .unit => ()
  | .bool => false
  | .str => ⟨#[]⟩
  | .int _ => 0
  | .pair a b => (a.dflt, b.dflt)
  | .slice _ => []

/-! ### Abstract values -/
inductive V where
  | dead
  | bool (b : Bool)
  | int (k : IntKind) (n : Int)
  | str (s : ByteArray)
  | nils | nilp | nilf | nilm
  /-- a pointer into the live block b: element i, cell j, generation g -/
  | ptr (b i j g : Nat)
  /-- a pointer to a cell of an array in the box b: the array begins at cell j, has n elements of e cells; element x, cell o of it -/
  | pa (b j e n : Nat) (x : Int) (o : Nat)
  /-- a slice of the live row b from element i on: m elements, or all (none) -/
  | sl (b i : Nat) (m : Option Nat) (g : Nat)
  /-- a slice of an array in the box b, from cell j on: n elements of s cells -/
  | sb (b j s n : Nat)
  /-- a slice of frozen data -/
  | fz (τ : Ty) (l : List τ.den)
  /-- a pointer to cell j of element i of frozen data -/
  | fp (τ : Ty) (l : List τ.den) (i j : Nat)
  | fn (f : FuncId) (cap : List V)
  | agg (cs : List V)
  | tup (vs : List V)

instance : Inhabited V := ⟨.dead⟩

def enc : (τ : Ty) → τ.den → List V
  | .unit, _ => []
  | .bool, b => [.bool b]
  | .str, s => [.str s]
  | .int k, n => [.int k n]
  | .pair a b, x => enc a x.1 ++ enc b x.2
  | .slice e, l => [.fz e l]

/-- Reads data off cells: what is left, too. -/
def dec : (τ : Ty) → List V → Option (τ.den × List V)
  | .unit, cs => some ((), cs)
  | .bool, .bool b :: cs => some (b, cs)
  | .str, .str s :: cs => some (s, cs)
  | .int k, .int k' n :: cs => if k' = k then some (n, cs) else none
  | .pair a b, cs =>
    match dec a cs with
    | some (x, cs') =>
      match dec b cs' with
      | some (y, cs'') => some ((x, y), cs'')
      | none => none
    | none => none
  | .slice e, .fz e' l :: cs => if h : e' = e then some (h ▸ l, cs) else none
  | .slice _, .nils :: cs => some ([], cs)
  | _, _ => none

/-! ### Blocks -/
inductive Blk where
  | none
  | dead
  | box (cells : List V)
  | row (τ : Ty) (l : List τ.den) (g : Nat) (ro : Bool)

def Blk.gen : Blk → Option Nat
  | .box _ => some 0
  | .row _ _ g _ => some g
  | _ => Option.none

def Blk.len : Blk → Nat
  | .box c => c.length
  | .row _ l _ _ => l.length
  | _ => 0

/-- may be written -/
def Blk.own : Blk → Bool
  | .box _ => true
  | .row _ _ _ ro => !ro
  | _ => false

def Blk.isNone : Blk → Bool
  | .none => true
  | _ => false

abbrev Mem := Nat → Blk

def Mem.upd (M : Mem) (b : Nat) (k : Blk) : Mem := fun x => bif Nat.beq x b then k else M x

def Mem.upds (M : Mem) : List (Nat × Blk) → Mem
  | [] => M
  | (b, k) :: r => (M.upd b k).upds r

/-- What an operation does: its value, the blocks that it writes or makes, those that it looks at. -/
structure Eff where
  val : V
  upd : List (Nat × Blk) := []
  fp : List Nat := []

/-! ### The description of a type, as far as operations ask -/
inductive TI where
  /-- no struct, no array: one cell -/
  | one (z : V)
  | struct (size : Nat) (fields : List (Nat × Nat × Bool)) (z : List V)     -- offset, cells, whether it is a struct or an array itself
  | array (n esz : Nat) (eagg : Bool) (z : List V)
  | slice (esz : Nat) (eagg : Bool) (τ : Ty)
  deriving Inhabited

end Go.Pv
