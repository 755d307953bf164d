/-
  The ground of the proof, part 1: Abstract values, typed data, blocks and states: the ground of a method of this session's own (no project text). What the listed package variables of this seat hold (each seat has its own such text). How abstract values and blocks stand for the model's values and memory; what is kept when memory grows or changes. What operations ask of the program's types, as a table; how the table is computed from the program; the model's small programs on types, run. The abstract run of one operation, in continuation-passing form. The abstract run of code, in continuation-passing form. What it means that an abstract run of an operation is right; operations that leave memory alone. Moves, arithmetic, comparison, conversion: the abstract run is right. Operations without memory: unary ones, conversions, closures, parts of aggregates, min and max. Operations that read memory. Addresses of fields and elements. Slice expressions; len. New blocks, and writes into blocks of one's own: what is kept. Operations that make blocks or write them: alloc, box, build, store. Stores. Slices that are made: literals, make, append.
-/
import Derived.Calls
import Derived.Tactics
import Derived.MapKept
import GoSem.Claim
import Derived.Laws.StructEq
import Derived.Laws.Cells
import Derived.ChangeKeysEq
import Derived.Laws.AppendOwn
import Derived.Laws.Tables
import Derived.Great.BuildSlice
import Derived.IntWalk
/-! ### Abstract values, typed data, blocks and states: the ground of a method of this session's own (no project text). -/
namespace Go.Pv

/-! ### Typed data -/
inductive Ty where
  | unit | bool | str
  | int (k : IntKind)
  | pair (a b : Ty)
  | slice (e : Ty)
  deriving DecidableEq

@[reducible] def Ty.den : Ty → Type
  | .unit => Unit
  | .bool => Bool
  | .str => ByteArray
  | .int _ => Int
  | .pair a b => a.den × b.den
  | .slice e => List e.den

def Ty.size : Ty → Nat
  | .unit => 0
  | .bool => 1
  | .str => 1
  | .int _ => 1
  | .pair a b => a.size + b.size
  | .slice _ => 1

/-- A tuple of types, right-nested, ended by nothing (its last component stands bare). -/
def Ty.tup : List Ty → Ty
  | [] => .unit
  | [a] => a
  | a :: b :: r => .pair a (Ty.tup (b :: r))

/-- n copies. -/
def Ty.arr (n : Nat) (a : Ty) : Ty := Ty.tup (List.replicate n a)

def Ty.dflt : (τ : Ty) → τ.den
  | .unit => ()
  | .bool => false
  | .str => ⟨#[]⟩
  | .int _ => 0
  | .pair a b => (a.dflt, b.dflt)
  | .slice _ => []

/-! ### Abstract values -/
inductive V where
  | dead
  | bool (b : Bool)
  | int (k : IntKind) (n : Int)
  | str (s : ByteArray)
  | nils | nilp | nilf | nilm
  /-- a map of one's own: the live block b -/
  | mp (b : Nat)
  /-- a pointer into the live block b: element i, cell j, generation g -/
  | ptr (b i j g : Nat)
  /-- a pointer to a cell of an array in the box b: the array begins at cell j, has n elements of e cells; element x, cell o of it -/
  | pa (b j e n : Nat) (x : Int) (o : Nat)
  /-- a slice of the live row b from element i on: m elements, or all (none) -/
  | sl (b i : Nat) (m : Option Nat) (g : Nat)
  /-- a slice of an array in the box b, from cell j on: n elements of s cells -/
  | sb (b j s n : Nat)
  /-- a slice of frozen data -/
  | fz (τ : Ty) (l : List τ.den)
  /-- a pointer to cell j of element i of frozen data -/
  | fp (τ : Ty) (l : List τ.den) (i j : Nat)
  | fn (f : FuncId) (cap : List V)
  | agg (cs : List V)
  | tup (vs : List V)

instance : Inhabited V := ⟨.dead⟩

def enc : (τ : Ty) → τ.den → List V
  | .unit, _ => []
  | .bool, b => [.bool b]
  | .str, s => [.str s]
  | .int k, n => [.int k n]
  | .pair a b, x => enc a x.1 ++ enc b x.2
  | .slice e, l => [.fz e l]

/-- Reads data off cells: what is left, too. -/
def dec : (τ : Ty) → List V → Option (τ.den × List V)
  | .unit, cs => some ((), cs)
  | .bool, .bool b :: cs => some (b, cs)
  | .str, .str s :: cs => some (s, cs)
  | .int k, .int k' n :: cs => if k' = k then some (n, cs) else none
  | .pair a b, cs =>
    match dec a cs with
    | some (x, cs') =>
      match dec b cs' with
      | some (y, cs'') => some ((x, y), cs'')
      | none => none
    | none => none
  | .slice e, .fz e' l :: cs => if h : e' = e then some (h ▸ l, cs) else none
  | .slice _, .nils :: cs => some ([], cs)
  | _, _ => none

/-! ### Blocks -/
inductive Blk where
  | none
  | dead
  | box (cells : List V)
  | row (τ : Ty) (l : List τ.den) (g : Nat) (ro : Bool)
  /-- a map: its entries, in the order in which they came -/
  | mp (k : IntKind) (τ : Ty) (l : List (Int × τ.den))

def Blk.gen : Blk → Option Nat
  | .box _ => some 0
  | .row _ _ g _ => some g
  | .mp _ _ _ => some 0
  | _ => Option.none

def Blk.len : Blk → Nat
  | .box c => c.length
  | .row _ l _ _ => l.length
  | _ => 0

/-- may be written -/
def Blk.own : Blk → Bool
  | .box _ => true
  | .row _ _ _ ro => !ro
  | .mp _ _ _ => true
  | _ => false

def Blk.isNone : Blk → Bool
  | .none => true
  | _ => false

abbrev Mem := Nat → Blk

def Mem.upd (M : Mem) (b : Nat) (k : Blk) : Mem := fun x => bif Nat.beq x b then k else M x

def Mem.upds (M : Mem) : List (Nat × Blk) → Mem
  | [] => M
  | (b, k) :: r => (M.upd b k).upds r

/-- What an operation does: its value, the blocks that it writes or makes, those that it looks at. -/
structure Eff where
  val : V
  upd : List (Nat × Blk) := []
  fp : List Nat := []

/-! ### The description of a type, as far as operations ask -/
inductive TI where
  /-- no struct, no array: one cell -/
  | one (z : V)
  | struct (size : Nat) (fields : List (Nat × Nat × Bool)) (z : List V)     -- offset, cells, whether it is a struct or an array itself
  | array (n esz : Nat) (eagg : Bool) (z : List V)
  | slice (esz : Nat) (eagg : Bool) (τ : Ty)
  deriving Inhabited

end Go.Pv
/-! ### What the listed package variables of this seat hold (each seat has its own such text). -/
namespace Go.Pv
/-- the package variables that the rows lay: their numbers, types and data -/
def globTab : Nat → Option ((τ : Ty) × τ.den)
  | 0 => some ⟨Ty.arr 7 (.int .i64), ((8 : Int), (-483 : Int), (21534 : Int), (-628374 : Int), (10696163 : Int), (-86699834 : Int), (210828714 : Int))⟩
  | _ => none
end Go.Pv
/-! ### How abstract values and blocks stand for the model's values and memory; what is kept when memory grows or changes. -/
namespace Go.Pv

inductive Loc where
  | virt
  /-- block cb, from cell base on, elements of sz cells, top cells in all -/
  | at (cb base sz top : Nat)

abbrev Heap := Array Obj

/-- Data read from cells. -/
def RD (h : Heap) (Z : Nat → Prop) : (τ : Ty) → τ.den → List Value → Prop
  | .unit, _, cs => cs = []
  | .bool, b, cs => cs = [.bool b]
  | .str, s, cs => cs = [.string s]
  | .int k, n, cs => cs = [.int k n]
  | .pair a b, x, cs => RD h Z a x.1 (cs.take a.size) ∧ RD h Z b x.2 (cs.drop a.size)
  | .slice e, l, cs =>
    ((∃ a cap, cs = [.slice a 0 cap]) ∧ l = []) ∨
    ∃ cb off cap c T fz, cs = [.slice (some ⟨cb, off, none⟩) l.length cap] ∧ l.length ≤ cap ∧ Z cb ∧ h[cb]? = some (.cells c T fz) ∧
      off + l.length * e.size ≤ c.size ∧ ∀ i x, l[i]? = some x → RD h Z e x ((c.toList.drop (off + i * e.size)).take e.size)

theorem RD.length {h : Heap} {Z : Nat → Prop} : ∀ {τ : Ty} {x : τ.den} {cs : List Value}, RD h Z τ x cs → cs.length = τ.size
  | .unit, _, cs, hh => by simp only [RD] at hh; subst hh; rfl
  | .bool, _, cs, hh => by simp only [RD] at hh; subst hh; rfl
  | .str, _, cs, hh => by simp only [RD] at hh; subst hh; rfl
  | .int _, _, cs, hh => by simp only [RD] at hh; subst hh; rfl
  | .pair a b, x, cs, hh => by
    obtain ⟨h1, h2⟩ := hh
    have e1 := RD.length h1
    have e2 := RD.length h2
    simp only [List.length_take, List.length_drop] at e1 e2
    simp only [Ty.size]; omega
  | .slice e, l, cs, hh => by
    simp only [RD] at hh
    rcases hh with ⟨⟨_, _, h1⟩, _⟩ | ⟨_, _, _, _, _, _, h1, _⟩ <;> subst h1 <;> rfl

theorem RD.mono {h h' : Heap} {Z Z' : Nat → Prop} (hk : ∀ cb, Z cb → h'[cb]? = h[cb]?) (hz : ∀ cb, Z cb → Z' cb) :
    ∀ {τ : Ty} {x : τ.den} {cs : List Value}, RD h Z τ x cs → RD h' Z' τ x cs
  | .unit, _, _, hh => hh
  | .bool, _, _, hh => hh
  | .str, _, _, hh => hh
  | .int _, _, _, hh => hh
  | .pair a b, x, cs, hh => ⟨RD.mono hk hz hh.1, RD.mono hk hz hh.2⟩
  | .slice e, l, cs, hh => by
    simp only [RD] at hh ⊢
    rcases hh with h1 | ⟨cb, off, cap, c, T, fz, h1, h2, h3, h4, h5, h6⟩
    · exact .inl h1
    · exact .inr ⟨cb, off, cap, c, T, fz, h1, h2, hz _ h3, by rw [hk _ h3]; exact h4, h5, fun i x hx => RD.mono hk hz (h6 i x hx)⟩

def Blk.isBox : Blk → Bool
  | .box _ => true
  | _ => false

/-- how many elements a pointer can choose from -/
def Blk.cnt : Blk → Nat
  | .box _ => 1
  | .row _ l _ _ => l.length
  | _ => 0

def PtrOk (k : Blk) (loc : Option Loc) (i j : Nat) (v : Value) : Prop :=
  i < k.cnt ∧ ∃ cb base sz top, loc = some (.at cb base sz top) ∧ v = .pointer (some ⟨cb, base + i * sz + j, none⟩)

def PaOk (k : Blk) (loc : Option Loc) (j e n : Nat) (x : Int) (o : Nat) (v : Value) : Prop :=
  0 ≤ x ∧ x < n ∧ j + n * e ≤ k.len ∧ k.isBox = true ∧
    ∃ cb base sz top, loc = some (.at cb base sz top) ∧ v = .pointer (some ⟨cb, base + (j + x.toNat * e + o), none⟩)

def SlOk (k : Blk) (loc : Option Loc) (i : Nat) (m : Option Nat) (v : Value) : Prop :=
  (loc = some .virt ∧ i = 0 ∧ (m = none ∨ m = some 0) ∧ v = .slice none 0 0) ∨
  ∃ cb base sz top off len cap, loc = some (.at cb base sz top) ∧ v = .slice (some ⟨cb, off, none⟩) len cap ∧ (0 < cap → off = base + i * sz) ∧ off ≤ top ∧ len ≤ cap ∧
    base + (i + cap) * sz ≤ top ∧ (match m with | none => i + len = k.cnt | some m => len = m ∧ i + m ≤ k.cnt)

def SbOk (k : Blk) (loc : Option Loc) (j s n : Nat) (v : Value) : Prop :=
  j + n * s ≤ k.len ∧ k.isBox = true ∧ ∃ cb base sz top cap, loc = some (.at cb base sz top) ∧ v = .slice (some ⟨cb, base + j, none⟩) n cap ∧ n ≤ cap ∧ j + cap * s ≤ k.len

def MpOk (loc : Option Loc) (v : Value) : Prop := ∃ cb base sz top, loc = some (.at cb base sz top) ∧ v = .map (some cb)

/-- An abstract value stands for a value. -/
inductive RV (β : Nat → Option Loc) (M : Mem) (Z : Nat → Prop) (h : Heap) : V → Value → Prop
  | dead (v : Value) : RV β M Z h .dead v
  | bool (b : Bool) : RV β M Z h (.bool b) (.bool b)
  | int (k : IntKind) (n : Int) : RV β M Z h (.int k n) (.int k n)
  | str (s : ByteArray) : RV β M Z h (.str s) (.string s)
  | nils : RV β M Z h .nils (.slice none 0 0)
  | nilp : RV β M Z h .nilp (.pointer none)
  | nilf : RV β M Z h .nilf .nilFunc
  | nilm : RV β M Z h .nilm (.map none)
  | mp (b : Nat) (v : Value) (h1 : v.oneCell' = true) (hn : M b ≠ .none)
      (hg : ∀ g0, (M b).gen = some g0 → g0 = 0 → MpOk (β b) v) : RV β M Z h (.mp b) v
  | ptr (b i j g : Nat) (v : Value) (h1 : v.oneCell' = true) (hn : M b ≠ .none)
      (hg : ∀ g0, (M b).gen = some g0 → g ≤ g0 ∧ (g = g0 → PtrOk (M b) (β b) i j v)) : RV β M Z h (.ptr b i j g) v
  | pa (b j e n : Nat) (x : Int) (o : Nat) (v : Value) (h1 : v.oneCell' = true) (hn : M b ≠ .none)
      (hg : ∀ g0, (M b).gen = some g0 → g0 = 0 → PaOk (M b) (β b) j e n x o v) : RV β M Z h (.pa b j e n x o) v
  | sl (b i : Nat) (m : Option Nat) (g : Nat) (v : Value) (h1 : v.oneCell' = true) (hn : M b ≠ .none)
      (hg : ∀ g0, (M b).gen = some g0 → g ≤ g0 ∧ (g = g0 → SlOk (M b) (β b) i m v)) : RV β M Z h (.sl b i m g) v
  | sb (b j s n : Nat) (v : Value) (h1 : v.oneCell' = true) (hn : M b ≠ .none)
      (hg : ∀ g0, (M b).gen = some g0 → g0 = 0 → SbOk (M b) (β b) j s n v) : RV β M Z h (.sb b j s n) v
  | fz (τ : Ty) (l : List τ.den) (v : Value) (hd : RD h Z (.slice τ) l [v]) : RV β M Z h (.fz τ l) v
  | fp (τ : Ty) (l : List τ.den) (i j : Nat) (v : Value) (cb off : Nat) (c : Array Value) (T : TypeId) (fz : Nat × Nat) (x : τ.den)
      (hv : v = .pointer (some ⟨cb, off + j, none⟩)) (hz : Z cb) (hc : h[cb]? = some (.cells c T fz)) (hx : l[i]? = some x) (ho : off + τ.size ≤ c.size)
      (hd : RD h Z τ x ((c.toList.drop off).take τ.size)) : RV β M Z h (.fp τ l i j) v
  | fn (f : FuncId) (cap : List V) (vs : Array Value) (hl : cap.length = vs.size)
      (hc : ∀ i (hi : i < cap.length), RV β M Z h cap[i] (vs.getD i undef)) : RV β M Z h (.fn f cap) (.func (.func f) #[] vs)
  | agg (cs : List V) (vs : Array Value) (hl : cs.length = vs.size)
      (hc : ∀ i (hi : i < cs.length), RV β M Z h cs[i] (vs.getD i undef)) : RV β M Z h (.agg cs) (.agg vs)
  | tup (cs : List V) (vs : Array Value) (hl : cs.length = vs.size)
      (hc : ∀ i (hi : i < cs.length), RV β M Z h cs[i] (vs.getD i undef)) : RV β M Z h (.tup cs) (.tuple vs)

/-- What references need of a change. -/
structure Grow (β : Nat → Option Loc) (M : Mem) (Z : Nat → Prop) (h : Heap) (β' : Nat → Option Loc) (M' : Mem) (Z' : Nat → Prop) (h' : Heap) : Prop where
  zkeep : ∀ cb, Z cb → h'[cb]? = h[cb]?
  zmono : ∀ cb, Z cb → Z' cb
  nn : ∀ b, M b ≠ .none → M' b ≠ .none
  gone : ∀ b, M b ≠ .none → (M b).gen = none → (M' b).gen = none
  gens : ∀ b g, (M b).gen = some g → ∀ g', (M' b).gen = some g' →
    g ≤ g' ∧ (g = g' → β' b = β b ∧ (M' b).len = (M b).len ∧ (M' b).cnt = (M b).cnt ∧ (M' b).isBox = (M b).isBox)

section
variable {β β' β'' : Nat → Option Loc} {M M' M'' : Mem} {Z Z' Z'' : Nat → Prop} {h h' h'' : Heap}

theorem Grow.refl (β : Nat → Option Loc) (M : Mem) (Z : Nat → Prop) (h : Heap) : Grow β M Z h β M Z h :=
  ⟨fun _ _ => rfl, fun _ h => h, fun _ h => h, fun _ _ h => h, fun b g hg g' hg' => by
    rw [hg] at hg'; cases hg'; exact ⟨Nat.le_refl _, fun _ => ⟨rfl, rfl, rfl, rfl⟩⟩⟩

theorem gen_none {k : Blk} : k = .none → k.gen = none := by rintro rfl; rfl

theorem Grow.trans (g1 : Grow β M Z h β' M' Z' h') (g2 : Grow β' M' Z' h' β'' M'' Z'' h'') : Grow β M Z h β'' M'' Z'' h'' where
  zkeep cb hz := by rw [g2.zkeep cb (g1.zmono cb hz), g1.zkeep cb hz]
  zmono cb hz := g2.zmono cb (g1.zmono cb hz)
  nn b hb := g2.nn b (g1.nn b hb)
  gone b hb hg := g2.gone b (g1.nn b hb) (g1.gone b hb hg)
  gens b g hg g'' hg'' := by
    have hb : M b ≠ .none := fun hb => by rw [gen_none hb] at hg; cases hg
    cases hm : (M' b).gen with
    | none => have := g2.gone b (g1.nn b hb) hm; rw [this] at hg''; cases hg''
    | some g' =>
      obtain ⟨a1, a2⟩ := g1.gens b g hg g' hm
      obtain ⟨b1, b2⟩ := g2.gens b g' hm g'' hg''
      refine ⟨Nat.le_trans a1 b1, fun e => ?_⟩
      have e1 : g = g' := by omega
      have e2 : g' = g'' := by omega
      obtain ⟨p1, p2, p3, p4⟩ := a2 e1
      obtain ⟨q1, q2, q3, q4⟩ := b2 e2
      exact ⟨q1.trans p1, q2.trans p2, q3.trans p3, q4.trans p4⟩

theorem PtrOk.of_eq {k k' : Blk} {loc loc' : Option Loc} {i j : Nat} {v : Value} (hc : k'.cnt = k.cnt) (hl : loc' = loc) (p : PtrOk k loc i j v) : PtrOk k' loc' i j v := by
  unfold PtrOk at *; rw [hc, hl]; exact p

theorem SlOk.of_eq {k k' : Blk} {loc loc' : Option Loc} {i : Nat} {m : Option Nat} {v : Value} (hc : k'.cnt = k.cnt) (hl : loc' = loc) (p : SlOk k loc i m v) : SlOk k' loc' i m v := by
  unfold SlOk at *; rw [hc, hl]; exact p

theorem PaOk.of_eq {k k' : Blk} {loc loc' : Option Loc} {j e n : Nat} {x : Int} {o : Nat} {v : Value} (hc : k'.len = k.len) (hb : k'.isBox = k.isBox) (hl : loc' = loc)
    (p : PaOk k loc j e n x o v) : PaOk k' loc' j e n x o v := by
  unfold PaOk at *; rw [hc, hb, hl]; exact p

theorem SbOk.of_eq {k k' : Blk} {loc loc' : Option Loc} {j s n : Nat} {v : Value} (hc : k'.len = k.len) (hb : k'.isBox = k.isBox) (hl : loc' = loc)
    (p : SbOk k loc j s n v) : SbOk k' loc' j s n v := by
  unfold SbOk at *; rw [hc, hb, hl]; exact p

theorem RV.mono (g : Grow β M Z h β' M' Z' h') {x : V} {v : Value} (r : RV β M Z h x v) : RV β' M' Z' h' x v := by
  induction r with
  | dead v => exact .dead v
  | bool b => exact .bool b
  | int k n => exact .int k n
  | str s => exact .str s
  | nils => exact .nils
  | nilp => exact .nilp
  | nilf => exact .nilf
  | nilm => exact .nilm
  | mp b v h1 hn hg =>
    refine .mp b v h1 (g.nn b hn) fun g1 h1 e1 => ?_
    cases hm : (M b).gen with
    | none => rw [g.gone b hn hm] at h1; cases h1
    | some g0 =>
      obtain ⟨b1, b2⟩ := g.gens b g0 hm g1 h1
      have e0 : g0 = 0 := by omega
      obtain ⟨p1, p2, p3, p4⟩ := b2 (by omega)
      rw [p1]; exact hg g0 hm e0
  | ptr b i j gg v h1 hn hg =>
    refine .ptr b i j gg v h1 (g.nn b hn) fun g1 h1 => ?_
    cases hm : (M b).gen with
    | none => rw [g.gone b hn hm] at h1; cases h1
    | some g0 =>
      obtain ⟨a1, a2⟩ := hg g0 hm
      obtain ⟨b1, b2⟩ := g.gens b g0 hm g1 h1
      refine ⟨Nat.le_trans a1 b1, fun e => ?_⟩
      obtain ⟨p1, p2, p3, p4⟩ := b2 (by omega)
      exact (a2 (by omega)).of_eq p3 p1
  | pa b j e n x o v h1 hn hg =>
    refine .pa b j e n x o v h1 (g.nn b hn) fun g1 h1 e1 => ?_
    cases hm : (M b).gen with
    | none => rw [g.gone b hn hm] at h1; cases h1
    | some g0 =>
      obtain ⟨b1, b2⟩ := g.gens b g0 hm g1 h1
      have e0 : g0 = 0 := by omega
      obtain ⟨p1, p2, p3, p4⟩ := b2 (by omega)
      exact (hg g0 hm e0).of_eq p2 p4 p1
  | sl b i m gg v h1 hn hg =>
    refine .sl b i m gg v h1 (g.nn b hn) fun g1 h1 => ?_
    cases hm : (M b).gen with
    | none => rw [g.gone b hn hm] at h1; cases h1
    | some g0 =>
      obtain ⟨a1, a2⟩ := hg g0 hm
      obtain ⟨b1, b2⟩ := g.gens b g0 hm g1 h1
      refine ⟨Nat.le_trans a1 b1, fun e => ?_⟩
      obtain ⟨p1, p2, p3, p4⟩ := b2 (by omega)
      exact (a2 (by omega)).of_eq p3 p1
  | sb b j s n v h1 hn hg =>
    refine .sb b j s n v h1 (g.nn b hn) fun g1 h1 e1 => ?_
    cases hm : (M b).gen with
    | none => rw [g.gone b hn hm] at h1; cases h1
    | some g0 =>
      obtain ⟨b1, b2⟩ := g.gens b g0 hm g1 h1
      have e0 : g0 = 0 := by omega
      obtain ⟨p1, p2, p3, p4⟩ := b2 (by omega)
      exact (hg g0 hm e0).of_eq p2 p4 p1
  | fz τ l v hd => exact .fz τ l v (hd.mono g.zkeep g.zmono)
  | fp τ l i j v cb off c T fz x hv hz hc hx ho hd =>
    exact .fp τ l i j v cb off c T fz x hv (g.zmono _ hz) (by rw [g.zkeep _ hz]; exact hc) hx ho (hd.mono g.zkeep g.zmono)
  | fn f cap vs hl hc ih => exact .fn f cap vs hl ih
  | agg cs vs hl hc ih => exact .agg cs vs hl ih
  | tup cs vs hl hc ih => exact .tup cs vs hl ih

/-! ### Memory -/
/-- a map's entries -/
def MapData (h : Heap) (Z : Nat → Prop) (k : IntKind) (τ : Ty) (l : List (Int × τ.den)) (es : Array MapEntry) (clock : Nat) : Prop :=
  MapKept.Stamped es clock ∧ es.size = l.length ∧ (∀ x ∈ l, (Lit.int k x.1).wf = true) ∧ ∀ (i : Nat) (e : MapEntry) (x : Int × τ.den), es[i]? = some e → l[i]? = some x → e.key = .int k x.1 ∧ RD h Z τ x.2 [e.val]
theorem MapData.mono {h h' : Heap} {Z Z' : Nat → Prop} {k : IntKind} {τ : Ty} {l : List (Int × τ.den)} {es : Array MapEntry} {clock : Nat} (hk : ∀ cb, Z cb → h'[cb]? = h[cb]?) (hz : ∀ cb, Z cb → Z' cb)
    (d : MapData h Z k τ l es clock) : MapData h' Z' k τ l es clock :=
  ⟨d.1, d.2.1, d.2.2.1, fun i e x h1 h2 => ⟨(d.2.2.2 i e x h1 h2).1, (d.2.2.2 i e x h1 h2).2.mono hk hz⟩⟩
def RB (β : Nat → Option Loc) (M : Mem) (Z : Nat → Prop) (h : Heap) (b : Nat) : Prop :=
  match M b with
  | .box cells => ∃ cb T c, β b = some (.at cb 0 1 c.size) ∧ h[cb]? = some (.cells c T (0, 0)) ∧ c.size = cells.length ∧
      ∀ i (hi : i < cells.length), RV β M Z h cells[i] (c.getD i undef)
  | .row τ l _ ro => (l = [] ∧ β b = some .virt) ∨
      ∃ cb base T c fz, β b = some (.at cb base τ.size c.size) ∧ h[cb]? = some (.cells c T fz) ∧ (ro = false → fz = (0, 0)) ∧ base + l.length * τ.size ≤ c.size ∧
        (∀ i x, l[i]? = some x → RD h Z τ x ((c.toList.drop (base + i * τ.size)).take τ.size)) ∧ (ro = true → Z cb)
  | .mp k τ l => ∃ cb es clock, β b = some (.at cb 0 1 0) ∧ h[cb]? = some (.map es clock) ∧ MapData h Z k τ l es clock
  | _ => True

/-- the concrete block of b -/
def Loc.blk? : Option Loc → Option Nat
  | some (.at cb _ _ _) => some cb
  | _ => none

/-- b is live and lies in block cb -/
def lies (β : Nat → Option Loc) (M : Mem) (b cb : Nat) : Prop := (M b).gen ≠ none ∧ Loc.blk? (β b) = some cb

/-- block cb is ours to write -/
def owned (β : Nat → Option Loc) (M : Mem) (cb : Nat) : Prop := ∃ b, (M b).own = true ∧ lies β M b cb

/-- what the listed package variables hold -/
def GI (Z : Nat → Prop) (h : Heap) : Prop := ∀ (g : Nat) (τ : Ty) (x : τ.den), globTab g = some ⟨τ, x⟩ →
  Z g ∧ ∃ c T fz, h[g]? = some (.cells c T fz) ∧ 0 + τ.size ≤ c.size ∧ RD h Z τ x ((c.toList.drop 0).take τ.size)

/-- the zone of what is only read -/
structure ZOk (Z : Nat → Prop) (h : Heap) : Prop where
  lt : ∀ cb, Z cb → cb < h.size
  gl : GI Z h

theorem ZOk.mono {Z Z' : Nat → Prop} {h h' : Heap} (z : ZOk Z h) (hk : ∀ cb, Z cb → h'[cb]? = h[cb]?) (hz : ∀ cb, Z cb → Z' cb) (hl : ∀ cb, Z' cb → cb < h'.size) : ZOk Z' h' :=
  ⟨hl, fun g τ x hg => by
    obtain ⟨h1, c, T, fz, h2, h3, h4⟩ := z.gl g τ x hg
    exact ⟨hz g h1, c, T, fz, (hk g h1).trans h2, h3, h4.mono hk hz⟩⟩

structure RMem (β : Nat → Option Loc) (M : Mem) (Z : Nat → Prop) (h : Heap) : Prop where
  blk : ∀ b, RB β M Z h b
  sep : ∀ b b' cb, (M b).own = true → lies β M b cb → lies β M b' cb → b = b'
  zown : ∀ cb, Z cb → ¬ owned β M cb
  zlt : ZOk Z h

theorem lies_lt {b cb : Nat} (r : RB β M Z h b) (hl : lies β M b cb) : cb < h.size := by
  obtain ⟨h1, h2⟩ := hl
  unfold RB at r
  cases hm : M b with
  | none => simp [hm, Blk.gen] at h1
  | dead => simp [hm, Blk.gen] at h1
  | box cells =>
    simp only [hm] at r
    obtain ⟨cb', T, c, e1, e2, _⟩ := r
    rw [e1] at h2; simp only [Loc.blk?, Option.some.injEq] at h2; subst h2
    exact (Array.getElem?_eq_some_iff.1 e2).1
  | row τ l g ro =>
    simp only [hm] at r
    rcases r with ⟨_, e1⟩ | ⟨cb', base, T, c, fz, e1, e2, _⟩
    · rw [e1] at h2; simp [Loc.blk?] at h2
    · rw [e1] at h2; simp only [Loc.blk?, Option.some.injEq] at h2; subst h2
      exact (Array.getElem?_eq_some_iff.1 e2).1
  | mp k τ l =>
    simp only [hm] at r
    obtain ⟨cb', es, clock, e1, e2, _⟩ := r
    rw [e1] at h2; simp only [Loc.blk?, Option.some.injEq] at h2; subst h2
    exact (Array.getElem?_eq_some_iff.1 e2).1

/-- What becomes of memory: the whole of it. -/
structure Ev (β : Nat → Option Loc) (M : Mem) (Z : Nat → Prop) (h : Heap) (β' : Nat → Option Loc) (M' : Mem) (Z' : Nat → Prop) (h' : Heap) : Prop extends Grow β M Z h β' M' Z' h' where
  size : h.size ≤ h'.size
  frame : ∀ cb, cb < h.size → ¬ owned β M cb → h'[cb]? = h[cb]?
  own : ∀ cb, owned β' M' cb → h.size ≤ cb ∨ owned β M cb
  znew : ∀ cb, Z' cb → Z cb ∨ h.size ≤ cb ∨ owned β M cb

theorem Ev.refl (β : Nat → Option Loc) (M : Mem) (Z : Nat → Prop) (h : Heap) : Ev β M Z h β M Z h where
  toGrow := Grow.refl β M Z h
  size := Nat.le_refl _
  frame _ _ _ := rfl
  own _ h := .inr h
  znew _ h := .inl h

theorem Ev.trans (g1 : Ev β M Z h β' M' Z' h') (g2 : Ev β' M' Z' h' β'' M'' Z'' h'') : Ev β M Z h β'' M'' Z'' h'' where
  toGrow := g1.toGrow.trans g2.toGrow
  size := Nat.le_trans g1.size g2.size
  frame cb hlt ho := by
    have ho' : ¬ owned β' M' cb := fun q => by
      rcases g1.own cb q with q | q
      · omega
      · exact ho q
    rw [g2.frame cb (Nat.lt_of_lt_of_le hlt g1.size) ho', g1.frame cb hlt ho]
  own cb q := by
    rcases g2.own cb q with q | q
    · exact .inl (Nat.le_trans g1.size q)
    · exact g1.own cb q
  znew cb q := by
    rcases g2.znew cb q with q | q | q
    · exact g1.znew cb q
    · exact .inr (.inl (Nat.le_trans g1.size q))
    · rcases g1.own cb q with q | q
      · exact .inr (.inl q)
      · exact .inr (.inr q)

/-- Of the world at large: what it has printed stays. -/
def Wd (w w' : World) : Prop := w'.os = w.os ∧ w'.output = w.output

theorem Wd.refl (w : World) : Wd w w := ⟨rfl, rfl⟩
theorem Wd.trans {w w' w'' : World} (h1 : Wd w w') (h2 : Wd w' w'') : Wd w w'' := ⟨h2.1.trans h1.1, h2.2.trans h1.2⟩

structure EvW (β : Nat → Option Loc) (M : Mem) (Z : Nat → Prop) (w : World) (β' : Nat → Option Loc) (M' : Mem) (Z' : Nat → Prop) (w' : World) : Prop extends Ev β M Z w.heap β' M' Z' w'.heap where
  wd : Wd w w'

theorem EvW.refl (β : Nat → Option Loc) (M : Mem) (Z : Nat → Prop) (w : World) : EvW β M Z w β M Z w := ⟨Ev.refl _ _ _ _, Wd.refl _⟩
theorem EvW.trans {w w' w'' : World} (g1 : EvW β M Z w β' M' Z' w') (g2 : EvW β' M' Z' w' β'' M'' Z'' w'') : EvW β M Z w β'' M'' Z'' w'' := ⟨g1.toEv.trans g2.toEv, g1.wd.trans g2.wd⟩

/-- a block that is not touched -/
theorem RB.keep {b : Nat} (r : RB β M Z h b) (g : Grow β M Z h β' M' Z' h') (hM : M' b = M b) (hβ : (M b).gen ≠ none → β' b = β b)
    (hh : ∀ cb, lies β M b cb → h'[cb]? = h[cb]?) : RB β' M' Z' h' b := by
  unfold RB at *
  rw [hM]
  cases hm : M b with
  | none => simp
  | dead => simp
  | box cells =>
    simp only [hm] at r ⊢
    have hb := hβ (by simp [hm, Blk.gen])
    obtain ⟨cb, T, c, e1, e2, e3, e4⟩ := r
    refine ⟨cb, T, c, by rw [hb]; exact e1, ?_, e3, fun i hi => (e4 i hi).mono g⟩
    rw [hh cb ⟨by simp [hm, Blk.gen], by rw [e1]; rfl⟩]; exact e2
  | row τ l gg ro =>
    simp only [hm] at r ⊢
    have hb := hβ (by simp [hm, Blk.gen])
    rcases r with ⟨e0, e1⟩ | ⟨cb, base, T, c, fz, e1, e2, e3, e4, e5, e6⟩
    · exact .inl ⟨e0, by rw [hb]; exact e1⟩
    · refine .inr ⟨cb, base, T, c, fz, by rw [hb]; exact e1, ?_, e3, e4, fun i x hx => (e5 i x hx).mono g.zkeep g.zmono, fun hr => g.zmono _ (e6 hr)⟩
      rw [hh cb ⟨by simp [hm, Blk.gen], by rw [e1]; rfl⟩]; exact e2
  | mp k τ l =>
    simp only [hm] at r ⊢
    have hb := hβ (by simp [hm, Blk.gen])
    obtain ⟨cb, es, clock, e1, e2, e3⟩ := r
    refine ⟨cb, es, clock, by rw [hb]; exact e1, ?_, e3.mono g.zkeep g.zmono⟩
    rw [hh cb ⟨by simp [hm, Blk.gen], by rw [e1]; rfl⟩]; exact e2

end
end Go.Pv
/-! ### What operations ask of the program's types, as a table; how the table is computed from the program; the model's small programs on types, run. -/
namespace Go.Pv

/-- A constant of the code. -/
def V.ofValue : Value → V
  | .bool b => .bool b
  | .int k n => .int k n
  | .string s => .str s
  | .slice none 0 0 => .nils
  | .pointer none => .nilp
  | .nilFunc => .nilf
  | .map none => .nilm
  | _ => .dead

theorem RV.ofValue {β : Nat → Option Loc} {M : Mem} {Z : Nat → Prop} {h : Heap} (v : Value) : RV β M Z h (V.ofValue v) v := by
  unfold V.ofValue; split <;> constructor

/-- a field: its place, its type, is it blank? -/
structure Fd where
  off : Nat
  type : TypeId
  blank : Bool

inductive K where
  | bad | other | bool | str
  | int (k : IntKind)
  | struct (fs : List Fd)
  | array (n : Nat) (e : TypeId)
  | slice (e : TypeId)
  | map (k e : TypeId)

def K.of : TypeDesc → K
  | .bool => .bool
  | .int k => .int k
  | .string => .str
  | .struct fs => .struct (fs.toList.map fun f => ⟨f.offset, f.type, f.name == "_"⟩)
  | .array n e => .array n e
  | .slice e => .slice e
  | .map k e => .map k e
  | _ => .other

def K.agg : K → Bool
  | .struct _ => true
  | .array _ _ => true
  | _ => false

def tyOf (P : Program) : Nat → TypeId → Option Ty
  | 0, _ => none
  | n + 1, t =>
    match P.underlying t with
    | some .bool => some .bool
    | some (.int k) => some (.int k)
    | some .string => some .str
    | some (.slice e) => (tyOf P n e).map .slice
    | some (.array len e) => (tyOf P n e).map (Ty.arr len)
    | some (.struct fs) => (fs.toList.mapM fun f => tyOf P n f.type).map Ty.tup
    | _ => none

structure TT where
  kind : K
  size : Nat
  bytes : Nat
  zero : Option (List V)
  ty : Option Ty
  eqok : Bool
  /-- its zero value is a number or a bool -/
  plz : Bool

/-- the same, of a type that is known -/
def TT.pl (x : TT) : Bool :=
  match x.kind with
  | .bad => false
  | _ => x.plz

def plainZ : Value → Bool
  | .int _ _ => true
  | .bool _ => true
  | _ => false

def TT.bad : TT := ⟨.bad, 0, 0, none, none, false, false⟩

def TT.of (P : Program) (t : TypeId) : TT :=
  match P.info? t, P.underlying t with
  | some i, some d => ⟨K.of d, i.size, i.bytes, i.zero.map fun z => z.cells.toList.map V.ofValue, tyOf P 12 t, !(P.eqGuardType P.depth t) && !(P.stoodInHeld t), i.zero.any plainZ⟩
  | _, _ => TT.bad

/-- what the table tells of a type that is not bad -/
theorem TT.of_ok {P : Program} {t : TypeId} (h : (TT.of P t).kind ≠ .bad) : ∃ i d, P.info? t = some i ∧ P.underlying t = some d ∧
    (TT.of P t).kind = K.of d ∧ (TT.of P t).size = i.size ∧ (TT.of P t).bytes = i.bytes ∧ (TT.of P t).zero = i.zero.map (fun z => z.cells.toList.map V.ofValue) ∧
    (TT.of P t).ty = tyOf P 12 t ∧ (TT.of P t).eqok = (!(P.eqGuardType P.depth t) && !(P.stoodInHeld t)) := by
  unfold TT.of at h ⊢
  cases h1 : P.info? t with
  | none => simp [h1, TT.bad] at h
  | some i => cases h2 : P.underlying t with
    | none => simp [h1, h2, TT.bad] at h
    | some d => exact ⟨i, d, rfl, rfl, rfl, rfl, rfl, rfl, rfl, rfl⟩

section
variable {P : Program} {w : World}

theorem run_isAgg {t : TypeId} {d : TypeDesc} (h : P.underlying t = some d) : (isAgg t).run P w = .ok (K.of d).agg w := by
  unfold isAgg
  simp only [Sem.run_bind, run_underlying h, Result.andThen_ok]
  cases d <;> rfl

theorem run_sizeOf' {t : TypeId} {i : TypeInfo} (h : P.info? t = some i) : (sizeOf t).run P w = .ok i.size w := by
  simp [sizeOf, run_typeInfo (w := w) h]

theorem run_zeroValue' {t : TypeId} {i : TypeInfo} {z : Value} (h : P.info? t = some i) (hz : i.zero = some z) : (zeroValue t).run P w = .ok z w := by
  simp [zeroValue, run_typeInfo (w := w) h, hz]

end
end Go.Pv
/-! ### The abstract run of one operation, in continuation-passing form. -/
namespace Go.Pv

/-- What a call may come to: an answer that may be none, and what the call does for each. -/
structure CR where
  Y : Type
  val : Option Y
  eff : Y → Eff

def V.cells? : V → Option (List V)
  | .agg cs => some cs
  | .tup _ => none
  | .dead => none
  | v => some [v]

def V.sel (c : Bool) (a b : V) : V :=
  match a, b with
  | .int k x, .int k' y => bif decide (k = k') then .int k (bif c then x else y) else bif c then a else b
  | .bool x, .bool y => .bool (bif c then x else y)
  | .str x, .str y => .str (bif c then x else y)
  | _, _ => bif c then a else b

/-- all whole numbers of one kind -/
def ints? (k : IntKind) : List V → Option (List Int)
  | [] => some []
  | .int k' n :: r => bif decide (k' = k) then (match ints? k r with | some l => some (n :: l) | none => none) else none
  | _ => none

def bools? : List V → Option (List Bool)
  | [] => some []
  | .bool b :: r => (match bools? r with | some l => some (b :: l) | none => none)
  | _ => none

def strs? : List V → Option (List ByteArray)
  | [] => some []
  | .str b :: r => (match strs? r with | some l => some (b :: l) | none => none)
  | _ => none

/-- element x of a column -/
def V.at (x : Nat) (col : List V) : V :=
  match col with
  | .int k _ :: _ => match ints? k col with
    | some l => .int k (l.getD x 0)
    | none => col.getD x .dead
  | .bool _ :: _ => match bools? col with
    | some l => .bool (l.getD x false)
    | none => col.getD x .dead
  | .str _ :: _ => match strs? col with
    | some l => .str (l.getD x ⟨#[]⟩)
    | none => col.getD x .dead
  | _ => col.getD x .dead

/-- s cells of element x, from its cell o on, of an array with n elements of e cells at cell j -/
def pick (cells : List V) (j e n : Nat) (x : Nat) (o s : Nat) : List V :=
  (List.range s).map fun r => V.at x ((List.range n).map fun q => cells.getD (j + q * e + (o + r)) .dead)

/-- new cells over the old ones from j on -/
def setCells (cells : List V) (j : Nat) (new : List V) : List V := cells.take j ++ (new ++ cells.drop (j + new.length))

/-- may be stored in one cell -/
def V.flat : V → Bool
  | .dead => false
  | .agg _ => false
  | .tup _ => false
  | _ => true

/-- the same at element x of an array -/
def setPick (cells : List V) (j e n : Nat) (x : Nat) (o : Nat) (new : List V) : List V :=
  (List.range n).foldl (fun cs q => (List.range new.length).foldl (fun cs r =>
    cs.set (j + q * e + (o + r)) (V.sel (Nat.beq x q) (new.getD r .dead) (cs.getD (j + q * e + (o + r)) .dead))) cs) cells

/-- a value as an aggregate's or a variable's content -/
def mkv (agg : Bool) (cells : List V) : V := bif agg then .agg cells else cells.headD .dead

/-- the content of a slice of a row -/
def cut {α : Type} (l : List α) (i : Nat) (m : Option Nat) : List α :=
  match m with
  | none => l.drop i
  | some m => (l.drop i).take m

/-- a live slice becomes frozen data; the row may be written no more -/
def frz (M : Mem) : V → V × List (Nat × Blk)
  | .sl b i m g => match M b with
    | .row τ l g' _ => bif Nat.beq g g' then (.fz τ (cut l i m), [(b, .row τ l g' true)]) else (.dead, [])
    | _ => (.dead, [])
  | v => (v, [])

def decN (τ : Ty) : Nat → List V → Option (List τ.den)
  | 0, [] => some []
  | 0, _ => none
  | n + 1, cs => match dec τ cs with
    | some (x, r) => match decN τ n r with
      | some l => some (x :: l)
      | none => none
    | none => none

/-- the operand's abstract value -/
def evO (ρ : Nat → V) : Operand → V
  | .tmp t => ρ t
  | .const v => V.ofValue v
  | .func f => .fn f []
  | .global g => match globTab g with
    | some ⟨τ, x⟩ => .fp τ [x] 0 0
    | none => .dead

section
variable {R : Type}

def binInt (op : BinOp) (k : IntKind) (a b : Int) (c : Eff → Option R) : Option R :=
  match op with
  | .add => c { val := .int k (k.wrap (a + b)) }
  | .sub => c { val := .int k (k.wrap (a - b)) }
  | .mul => c { val := .int k (k.wrap (a * b)) }
  | .quo => bif decide (b = 0) then none else c { val := .int k (k.wrap (a.tdiv b)) }
  | .rem => bif decide (b = 0) then none else c { val := .int k (a.tmod b) }
  | .and => c { val := .int k (k.wrap (BitVec.ofInt k.bits a &&& BitVec.ofInt k.bits b).toNat) }
  | .or => c { val := .int k (k.wrap (BitVec.ofInt k.bits a ||| BitVec.ofInt k.bits b).toNat) }
  | .xor => c { val := .int k (k.wrap (BitVec.ofInt k.bits a ^^^ BitVec.ofInt k.bits b).toNat) }
  | .andNot => c { val := .int k (k.wrap (BitVec.ofInt k.bits a &&& ~~~BitVec.ofInt k.bits b).toNat) }
  | .eql => c { val := .bool (a == b) }
  | .neq => c { val := .bool (a != b) }
  | .lss => c { val := .bool (decide (a < b)) }
  | .leq => c { val := .bool (decide (a ≤ b)) }
  | .gtr => c { val := .bool (decide (a > b)) }
  | .geq => c { val := .bool (decide (a ≥ b)) }
  | _ => none

def binStr (op : BinOp) (a b : ByteArray) (c : Eff → Option R) : Option R :=
  match op with
  | .add => bif decide (((a.size + b.size : Nat) : Int) > IntKind.i64.max) then none else c { val := .str (a ++ b) }
  | .eql => c { val := .bool (a.toList == b.toList) }
  | .neq => c { val := .bool !(a.toList == b.toList) }
  | .lss => c { val := .bool (Op.bytesLess a.toList b.toList) }
  | .leq => c { val := .bool (Op.bytesLess a.toList b.toList || a.toList == b.toList) }
  | .gtr => c { val := .bool !(Op.bytesLess a.toList b.toList || a.toList == b.toList) }
  | .geq => c { val := .bool !(Op.bytesLess a.toList b.toList) }
  | _ => none

/-- are two values of a type equal? by the type's shape; none where it cannot be told -/
def eqE (T : TypeId → TT) : Nat → TypeId → List V → List V → Option Bool
  | 0, _, _, _ => none
  | n + 1, t, xs, ys =>
    match (T t).kind with
    | .bool => match xs, ys with
      | [.bool a], [.bool b] => some (a == b)
      | _, _ => none
    | .int _ => match xs, ys with
      | [.int k a], [.int k' b] => bif decide (k = k') then some (a == b) else none
      | _, _ => none
    | .str => match xs, ys with
      | [.str a], [.str b] => some (a.toList == b.toList)
      | _, _ => none
    | .struct fs => bif (T t).eqok then eqFs (eqE T n) T xs ys fs else none
    | .array len e => match (T e).kind with
      | .bad => none
      | _ => eqIs (eqE T n e) (T e).size xs ys len 0
    | _ => none
where
  eqFs (rec_ : TypeId → List V → List V → Option Bool) (T : TypeId → TT) (xs ys : List V) : List Fd → Option Bool
    | [] => some true
    | f :: fs => bif f.blank then none else
      match rec_ f.type ((xs.drop f.off).take (T f.type).size) ((ys.drop f.off).take (T f.type).size) with
        | some b => match eqFs rec_ T xs ys fs with
          | some c => some (b && c)
          | none => none
        | none => none
  eqIs (rec_ : List V → List V → Option Bool) (s : Nat) (xs ys : List V) : Nat → Nat → Option Bool
    | 0, _ => some true
    | n + 1, i => match rec_ ((xs.drop (i * s)).take s) ((ys.drop (i * s)).take s) with
      | some b => match eqIs rec_ s xs ys n (i + 1) with
        | some c => some (b && c)
        | none => none
      | none => none

def binE (T : TypeId → TT) (op : BinOp) (t : TypeId) (x y : V) (c : Eff → Option R) : Option R :=
  match x, y with
  | .int k a, .int k' b =>
    match op with
    | .shl => bif decide (b < 0) then none else c { val := .int k (k.wrap (a * 2 ^ (min b.toNat k.bits))) }
    | .shr => bif decide (b < 0) then none else c { val := .int k (a.fdiv (2 ^ (min b.toNat k.bits))) }
    | op => bif decide (k = k') then binInt op k a b c else none
  | .str a, .str b => binStr op a b c
  | .bool a, .bool b =>
    match (T t).kind with
    | .bool => match op with
      | .eql => c { val := .bool (a == b) }
      | .neq => c { val := .bool (!(a == b)) }
      | _ => none
    | _ => none
  | .agg xs, .agg ys =>
    bif (T t).eqok && (T t).kind.agg then (match eqE T 12 t xs ys with
    | some b => match op with
      | .eql => c { val := .bool b }
      | .neq => c { val := .bool (!b) }
      | _ => none
    | none => none) else none
  | _, _ => none

def unE (op : UnOp) (x : V) (c : Eff → Option R) : Option R :=
  match op, x with
  | .neg, .int k n => c { val := .int k (k.wrap (0 - n)) }
  | .xor, .int k n => c { val := .int k (k.wrap (BitVec.ofInt k.bits (if k.signed then -1 else k.max) ^^^ BitVec.ofInt k.bits n).toNat) }
  | .not, .bool b => c { val := .bool (!b) }
  | _, _ => none

def convE (T : TypeId → TT) (src dst : TypeId) (x : V) (c : Eff → Option R) : Option R :=
  match (T src).kind with
  | .bad => none
  | _ => match (T dst).kind, x with
    | .int k, .int _ n => c { val := .int k (k.wrap n) }
    | .str, .str s => c { val := .str s }
    | _, _ => none

/-! ### Forcing: what is handed on is written out -/
def V.force1 (v : V) (k : V → Option R) : Option R :=
  match v with
  | .dead => k .dead
  | .bool b => k (.bool b)
  | .int a b => k (.int a b)
  | .str s => k (.str s)
  | .nils => k .nils
  | .nilp => k .nilp
  | .nilf => k .nilf
  | .nilm => k .nilm
  | .mp a => k (.mp a)
  | .ptr a b c d => k (.ptr a b c d)
  | .pa a b c d e f => k (.pa a b c d e f)
  | .sl a b c d => k (.sl a b c d)
  | .sb a b c d => k (.sb a b c d)
  | .fz a b => k (.fz a b)
  | .fp a b c d => k (.fp a b c d)
  | .fn a b => k (.fn a b)
  | .agg a => k (.agg a)
  | .tup a => k (.tup a)

def forceL1 : List V → (List V → Option R) → Option R
  | [], k => k []
  | v :: r, k => v.force1 fun v => forceL1 r fun r => k (v :: r)

def V.force2 (v : V) (k : V → Option R) : Option R :=
  match v with
  | .agg a => forceL1 a fun a => k (.agg a)
  | .fn f a => forceL1 a fun a => k (.fn f a)
  | v => v.force1 k

def forceL2 : List V → (List V → Option R) → Option R
  | [], k => k []
  | v :: r, k => v.force2 fun v => forceL2 r fun r => k (v :: r)

def V.force (v : V) (k : V → Option R) : Option R :=
  match v with
  | .tup a => forceL2 a fun a => k (.tup a)
  | v => v.force2 k

def Blk.force (b : Blk) (k : Blk → Option R) : Option R :=
  match b with
  | .none => k .none
  | .dead => k .dead
  | .box cells => forceL2 cells fun cells => k (.box cells)
  | .row τ l g ro => k (.row τ l g ro)
  | .mp a τ l => k (.mp a τ l)

def forceU (M : Mem) : List (Nat × Blk) → (Mem → Option R) → Option R
  | [], k => k M
  | (b, x) :: r, k => x.force fun x => forceU (M.upd b x) r k

def forceN (n : Nat) (k : Nat → Option R) : Option R :=
  match n with
  | 0 => k 0
  | m + 1 => k (m + 1)

/-- fill parts into cells -/
def fillE (place : Nat → Option (Nat × Nat)) (cells : List V) : List (Nat × V) → (List V → Option R) → Option R
  | [], k => k cells
  | (i, v) :: r, k => match place i with
    | some (off, size) => match v.cells? with
      | some cs => bif Nat.beq cs.length size && Nat.ble (off + size) cells.length then forceL2 (setCells cells off cs) fun cells => fillE place cells r k else none
      | none => none
    | none => none

/-- where a part of a struct or an array lies, its size -/
def placeOf (T : TypeId → TT) (t : TypeId) (i : Nat) : Option (Nat × Nat) :=
  match (T t).kind with
  | .struct fs => match fs[i]? with
    | some f => match (T f.type).kind with
      | .bad => none
      | _ => some (f.off, (T f.type).size)
    | none => none
  | .array n e => bif Nat.blt i n then (match (T e).kind with
      | .bad => none
      | _ => some (i * (T e).size, (T e).size)) else none
  | _ => none

def loadE (T : TypeId → TT) (M : Mem) (t : TypeId) (a : V) (c : Eff → Option R) : Option R :=
  match (T t).kind with
  | .bad => none
  | _ => let s := (T t).size
    bif (T t).kind.agg || Nat.beq s 1 then
    match a with
    | .ptr b i j g => match M b with
      | .box cells => bif Nat.beq i 0 && Nat.beq g 0 && Nat.ble (j + s) cells.length then c { val := mkv ((T t).kind.agg) ((cells.drop j).take s), fp := [b] } else none
      | .row τ l g' _ => bif Nat.beq g g' && Nat.ble (j + s) τ.size then c { val := mkv ((T t).kind.agg) (((enc τ (l.getD i τ.dflt)).drop j).take s), fp := [b] } else none
      | _ => none
    | .pa b j e n x o => match M b with
      | .box cells => bif Nat.ble (o + s) e && Nat.ble (j + n * e) cells.length then c { val := mkv ((T t).kind.agg) (pick cells j e n x.toNat o s), fp := [b] } else none
      | _ => none
    | .fp τ l i j => bif Nat.ble (j + s) τ.size then c { val := mkv ((T t).kind.agg) (((enc τ (l.getD i τ.dflt)).drop j).take s) } else none
    | _ => none
    else none

def storeE (T : TypeId → TT) (M : Mem) (t : TypeId) (a x : V) (c : Eff → Option R) : Option R :=
  match (T t).kind, x.cells? with
  | .bad, _ => none
  | _, some new => let s := (T t).size
    bif Nat.beq new.length s && new.all V.flat then
    match a with
    | .ptr b i j g => match M b with
      | .box cells => bif Nat.beq i 0 && Nat.beq g 0 && Nat.ble (j + s) cells.length then c { val := .dead, upd := [(b, .box (setCells cells j new))], fp := [b] } else none
      | .row τ l g' ro => bif Nat.beq g g' && Nat.ble (j + s) τ.size && !ro then
          match dec τ (setCells (enc τ (l.getD i τ.dflt)) j new) with
          | some (y, []) => c { val := .dead, upd := [(b, .row τ (l.set i y) g' ro)], fp := [b] }
          | _ => none
        else none
      | _ => none
    | .pa b j e n x o => match M b with
      | .box cells => bif Nat.ble (o + s) e && Nat.ble (j + n * e) cells.length then c { val := .dead, upd := [(b, .box (setPick cells j e n x.toNat o new))], fp := [b] } else none
      | _ => none
    | _ => none
    else none
  | _, _ => none

def isStruct (T : TypeId → TT) (s : TypeId) (f : Nat) : Option (Nat × Nat) :=
  match (T s).kind with
  | .struct fs => match fs[f]? with
    | some q => match (T q.type).kind with
      | .bad => none
      | _ => bif Nat.beq (T q.type).size 0 then none else some (q.off, (T q.type).size)
    | none => none
  | _ => none

/-- an address that holds -/
def validP (M : Mem) : V → Bool
  | .ptr b _ _ g => match M b with
    | .box _ => Nat.beq g 0
    | .row _ _ g' _ => Nat.beq g g'
    | _ => false
  | .pa b _ _ _ _ _ => match M b with
    | .box _ => true
    | _ => false
  | .fp _ _ _ _ => true
  | _ => false

def fpOf : V → List Nat
  | .ptr b _ _ _ => [b]
  | .pa b _ _ _ _ _ => [b]
  | _ => []

/-- n cells further -/
def V.plus (a : V) (n : Nat) : V :=
  match a with
  | .ptr b i j g => .ptr b i (j + n) g
  | .pa b j e m x o => .pa b j e m x (o + n)
  | .fp τ l i j => .fp τ l i (j + n)
  | _ => .dead

def fieldAddrE (T : TypeId → TT) (M : Mem) (s : TypeId) (a : V) (f : Nat) (c : Eff → Option R) : Option R :=
  match isStruct T s f with
  | some (off, _) => bif validP M a then c { val := a.plus off, fp := fpOf a } else none
  | none => none

def fieldE (T : TypeId → TT) (s : TypeId) (x : V) (f : Nat) (c : Eff → Option R) : Option R :=
  match (T s).kind, x with
  | .struct fs, .agg cs => match fs[f]? with
    | some q => match (T q.type).kind with
      | .bad => none
      | k => let z := (T q.type).size
        bif Nat.ble (q.off + z) cs.length && (k.agg || Nat.beq z 1) then c { val := mkv k.agg ((cs.drop q.off).take z) } else none
    | none => none
  | _, _ => none

def inRange (x : Int) (n : Nat) : Bool := decide (0 ≤ x) && decide (x < n)

def lenOf {α : Type} (l : List α) (i : Nat) (m : Option Nat) : Nat :=
  match m with
  | none => l.length - i
  | some m => m

/-- the element x of an array at an address -/
def elemE (M : Mem) (a : V) (n s : Nat) (x : Int) : Option V :=
  match a with
  | .ptr b i j g => match M b with
    | .box cells => bif Nat.beq i 0 && Nat.ble (j + n * s) cells.length then some (.pa b j s n x 0) else none
    | _ => some (.ptr b i (j + x.toNat * s) g)
  | .pa b j e m y o => some (.pa b j e m y (o + x.toNat * s))
  | .fp τ l i j => some (.fp τ l i (j + x.toNat * s))
  | _ => none

def indexAddrE (T : TypeId → TT) (M : Mem) (t : TypeId) (a x : V) (c : Eff → Option R) : Option R :=
  match (T t).kind, x with
  | .array n e, .int _ x => match (T e).kind with
    | .bad => none
    | _ => bif validP M a then (match elemE M a n (T e).size x with
      | some v => bif inRange x n then c { val := v, fp := fpOf a } else none
      | none => none) else none
  | .slice e, .int _ x => match (T e).kind with
    | .bad => none
    | _ => let s := (T e).size
      match a with
      | .sl b i m g => match M b with
        | .row τ l g' _ => bif Nat.beq g g' && Nat.beq s τ.size then (bif inRange x (lenOf l i m) then c { val := .ptr b (x.toNat + i) 0 g, fp := [b] } else none) else none
        | _ => none
      | .fz τ l => bif Nat.beq s τ.size then (bif inRange x l.length then c { val := .fp τ l x.toNat 0 } else none) else none
      | .sb b j s' n => match M b with
        | .box _ => bif Nat.beq s s' then (bif inRange x n then c { val := .pa b j s n x 0, fp := [b] } else none) else none
        | _ => none
      | _ => none
  | _, _ => none

def indexE (T : TypeId → TT) (t : TypeId) (a x : V) (c : Eff → Option R) : Option R :=
  match (T t).kind, a, x with
  | .array n e, .agg cs, .int _ x => match (T e).kind with
    | .bad => none
    | k => let s := (T e).size
      bif Nat.ble (n * s) cs.length && (k.agg || Nat.beq s 1) then (bif inRange x n then c { val := mkv k.agg (pick cs 0 s n x.toNat 0 s) } else none) else none
  | .str, .str s, .int _ x => bif inRange x s.size then c { val := .int .u8 ((s.data.getD x.toNat 0).toNat : Nat) } else none
  | _, _, _ => none

/-- a slice expression's bound, or its default -/
def bnd (d : Nat) : Option V → Option Nat
  | none => some d
  | some (.int _ x) => bif decide (0 ≤ x) then some x.toNat else none
  | _ => none

/-- what a slice expression takes: the low bound, the high one if it is given -/
def sliceFz {α : Type} (l : List α) (lo : Nat) (hi : Option Nat) : List α :=
  match hi with
  | none => l.drop lo
  | some h => (l.take h).drop lo

/-- the parts of a slice expression over something of length n: low, high where given; its tests -/
def cutE (n : Nat) (lo hi mx : Option V) (c : Nat → Option Nat → Option R) : Option R :=
  match mx with
  | some (.int _ m) => match hi with
    | some (.int _ h) => match lo with
      | some (.int _ l) => bif decide (0 ≤ l) && decide (l ≤ h) && decide (h ≤ m) && decide (m ≤ n) then c l.toNat (some h.toNat) else none
      | none => bif decide (0 ≤ h) && decide (h ≤ m) && decide (m ≤ n) then c 0 (some h.toNat) else none
      | _ => none
    | _ => none
  | none => match hi with
    | some (.int _ h) => match lo with
      | some (.int _ l) => bif decide (0 ≤ l) && decide (l ≤ h) && decide (h ≤ n) then c l.toNat (some h.toNat) else none
      | none => bif decide (0 ≤ h) && decide (h ≤ n) then c 0 (some h.toNat) else none
      | _ => none
    | none => match lo with
      | some (.int _ l) => bif decide (0 ≤ l) && decide (l ≤ n) then c l.toNat none else none
      | none => c 0 none
      | _ => none
    | _ => none
  | _ => none

def sliceE (T : TypeId → TT) (M : Mem) (t : TypeId) (a : V) (lo hi mx : Option V) (c : Eff → Option R) : Option R :=
  match (T t).kind, a with
  | .str, .str s => match mx with
    | none => cutE s.size lo hi none fun l h => match h with
      | none => c { val := .str (s.extract l s.size) }
      | some h => c { val := .str (s.extract l h) }
    | some _ => none
  | .slice e, .sl b i m g => match M b, (T e).kind with
    | _, .bad => none
    | .row τ r g' _, _ => let sz := (T e).size
        bif Nat.beq g g' && Nat.beq sz τ.size then
        cutE (lenOf r i m) lo hi mx fun l h => match h, m with
          | none, none => c { val := .sl b (l + i) none g, fp := [b] }
          | none, some m => c { val := .sl b (l + i) (some (m - l)) g, fp := [b] }
          | some h, _ => c { val := .sl b (l + i) (some (h - l)) g, fp := [b] }
      else none
    | _, _ => none
  | .slice e, .fz τ r => match (T e).kind with
    | .bad => none
    | _ => bif Nat.beq (T e).size τ.size then cutE r.length lo hi mx fun l h => c { val := .fz τ (sliceFz r l h) } else none
  | .slice e, .nils => match (T e).kind with
    | .bad => none
    | _ => match mx with
      | none => cutE 0 lo hi none fun _ _ => c { val := .nils }
      | some _ => none
  | .array n e, .ptr b i j g => match (T e).kind with
    | .bad => none
    | _ => let s := (T e).size
    match M b, lo, mx with
    | .box cells, none, none => bif Nat.beq i 0 && Nat.beq g 0 && Nat.ble (j + n * s) cells.length then cutE n none hi none fun _ h => c { val := .sb b j s (h.getD n), fp := [b] } else none
    | _, _, _ => none
  | _, _ => none

def newE (M : Mem) (id : Nat) (k : Blk) (v : V) (more : List (Nat × Blk)) (fp : List Nat) (c : Eff → Option R) : Option R :=
  match M id with
  | .none => c { val := v, upd := (id, k) :: more, fp := id :: fp }
  | _ => none

def allocE (T : TypeId → TT) (M : Mem) (id : Nat) (t : TypeId) (c : Eff → Option R) : Option R :=
  match (T t).kind, (T t).zero with
  | .bad, _ => none
  | _, some z => newE M id (.box z) (.ptr id 0 0 0) [] [] c
  | _, none => none

def boxE (M : Mem) (id : Nat) (x : V) (c : Eff → Option R) : Option R :=
  match x.cells? with
  | some cs => newE M id (.box cs) (.ptr id 0 0 0) [] [] c
  | none => none

/-- the types of all fields are known -/
def fieldsOk (T : TypeId → TT) (t : TypeId) : Bool :=
  match (T t).kind with
  | .struct fs => fs.all fun f => match (T f.type).kind with
    | .bad => false
    | _ => true
  | .array _ e => match (T e).kind with
    | .bad => false
    | _ => true
  | _ => true

def buildE (T : TypeId → TT) (t : TypeId) (parts : List (Nat × V)) (c : Eff → Option R) : Option R :=
  match (T t).zero with
  | some z => bif (T t).kind.agg && fieldsOk T t then (fillE (placeOf T t) z parts fun cells => c { val := .agg cells }) else none
  | none => none

def zeroOk (t : TT) : Bool :=
  match t.zero with
  | some z => Nat.beq z.length t.size
  | none => false

/-- a row's element type: its size in bytes is small -/
def rowOf (T : TypeId → TT) (t : TypeId) : Option (TypeId × Ty × Nat) :=
  match (T t).kind with
  | .slice e => match (T e).ty with
    | some τ => match (T e).kind with
      | .bad => none
      | _ => bif Nat.beq (T e).size τ.size && Nat.ble (T e).bytes 16384 && Nat.blt 0 (T e).size && zeroOk (T e) then some (e, τ, (T e).size) else none
    | none => none
  | _ => none

/-- parts into frozen data -/
def frzs (M : Mem) : List V → List V × List (Nat × Blk)
  | [] => ([], [])
  | v :: r => match frz M v, frzs M r with
    | (v', u), (r', us) => (v' :: r', u ++ us)

def buildSliceE (T : TypeId → TT) (M : Mem) (id : Nat) (t : TypeId) (len : Nat) (parts : List (Nat × V)) (c : Eff → Option R) : Option R :=
  match rowOf T t with
  | some (e, τ, s) => match (T e).zero with
    | some z => bif Nat.beq z.length s && Nat.ble (len * s) 16777216 then
        (fillE (fun i => some (i * s, s)) (List.replicate len z).flatten parts fun cells => match decN τ len cells with
          | some l => newE M id (.row τ l 0 false) (.sl id 0 none 0) [] [] c
          | none => none) else none
    | none => none
  | none => none

/-! ### Freezing -/
/-- live slices become frozen data; what is written for it -/
def frz1 (M : Mem) : V → V × List (Nat × Blk)
  | .sl b i m g => match M b with
    | .row τ l g' _ => bif Nat.beq g g' then (.fz τ (cut l i m), [(b, .row τ l g' true)]) else (.sl b i m g, [])
    | _ => (.sl b i m g, [])
  | v => (v, [])

def frzL (M : Mem) : List V → List V × List (Nat × Blk)
  | [] => ([], [])
  | v :: r => match frz1 M v with
    | (v', u) => match frzL (M.upds u) r with
      | (r', u') => (v' :: r', u ++ u')

def frzV (M : Mem) (v : V) : V × List (Nat × Blk) :=
  match v with
  | .agg cs => match frzL M cs with
    | (cs', u) => (.agg cs', u)
  | v => frz1 M v

def V.solid : V → Bool
  | .sl _ _ _ _ => false
  | .agg cs => cs.all fun c => match c with
    | .sl _ _ _ _ => false
    | _ => true
  | _ => true

/-- the same, of one element: live slices in it are frozen first -/
def buildSliceF (T : TypeId → TT) (M : Mem) (id : Nat) (t : TypeId) (len : Nat) (parts : List (Nat × V)) (c : Eff → Option R) : Option R :=
  match parts with
  | [p] => (match frzV M p.2 with
    | (v, u) => match u with
      | [] => buildSliceE T M id t len parts c
      | _ :: _ => bif v.solid then buildSliceE T (M.upds u) id t len [(p.1, v)] fun eff => c { eff with upd := u ++ eff.upd, fp := u.map (·.1) ++ eff.fp } else none)
  | _ => buildSliceE T M id t len parts c

def maxRow : Nat := 1000000000

def makeSliceE (T : TypeId → TT) (M : Mem) (id : Nat) (t : TypeId) (len cap : V) (c : Eff → Option R) : Option R :=
  match rowOf T t, len, cap with
  | some (e, τ, s), .int _ n, .int _ m => match (T e).zero with
    | some z => match dec τ z with
      | some (x, []) => bif Nat.beq z.length s then (bif decide (0 ≤ n) && decide (n ≤ m) && decide (m ≤ (maxRow : Int)) then newE M id (.row τ (List.replicate n.toNat x) 0 false) (.sl id 0 none 0) [] [] c else none) else none
      | _ => none
    | none => none
  | _, _, _ => none

/-- the elements that an operand holds -/
def elems (M : Mem) (τ : Ty) : V → Option (List τ.den × List Nat)
  | .sl b i m g => match M b with
    | .row τ' l g' _ => bif Nat.beq g g' then (if h : τ' = τ then some (cut (h ▸ l) i m, [b]) else none) else none
    | _ => none
  | .fz τ' l => if h : τ' = τ then some (h ▸ l, []) else none
  | .nils => some ([], [])
  | .sb b j s n => match M b with
    | .box cells => bif Nat.beq s τ.size && Nat.ble (j + n * s) cells.length then (match decN τ n ((cells.drop j).take (n * s)) with
      | some l => some (l, [b])
      | none => none) else none
    | _ => none
  | _ => none

def appendE (T : TypeId → TT) (M : Mem) (id : Nat) (t : TypeId) (s x : V) (c : Eff → Option R) : Option R :=
  match rowOf T t with
  | some (_, τ, _) => match elems M τ x with
    | some (ys, fp) => match s with
      | .nils => bif decide (ys.length ≤ maxRow) then newE M id (.row τ ys 0 false) (.sl id 0 none 0) [] fp c else none
      | .sl b i none g => match M b with
        | .row τ' l g' ro => bif Nat.beq g g' && !ro then (if h : τ' = τ then
            (bif decide ((cut (h ▸ l) i none ++ ys).length ≤ maxRow) then c { val := .sl b 0 none (g + 1), upd := [(b, .row τ (cut (h ▸ l) i none ++ ys) (g + 1) false)], fp := b :: fp } else none) else none) else none
        | _ => none
      | _ => none
    | none => none
  | none => none

/-- n elements of s cells, from cell j of a variable on, with a list copied over them -/
def copyNew (cells : List V) (j s : Nat) (τ : Ty) (ys : List τ.den) : Nat → List V
  | 0 => []
  | n + 1 => copyNew cells j s τ ys n ++ (List.range s).map fun r => V.sel (Nat.blt n ys.length) ((enc τ (ys.getD n τ.dflt)).getD r .dead) (cells.getD (j + n * s + r) .dead)

/-- elements of a list copied into a row of its own -/
def copyRowE (M : Mem) (τ : Ty) (ys : List τ.den) (fp : List Nat) (b i : Nat) (m : Option Nat) (g : Nat) (c : Eff → Option R) : Option R := match M b with
  | .row τ' l g' ro => bif Nat.beq g g' && (Nat.beq i 0 && (m.isNone && (!ro && Nat.blt 0 l.length))) then (if e : τ' = τ then
      c { val := .int .i64 (Nat.min ys.length l.length : Nat), upd := [(b, .row τ (ys.take (e ▸ l).length ++ (e ▸ l).drop ys.length) g false)], fp := b :: fp } else none) else none
  | _ => none
def copyE (T : TypeId → TT) (M : Mem) (t : TypeId) (d x : V) (c : Eff → Option R) : Option R :=
  match rowOf T t with
  | some (_, τ, s) => match elems M τ x with
    | some (ys, fp) => match d with
      | .sb b j s' n => match M b with
        | .box cells => bif Nat.beq s s' && Nat.ble (j + n * s) cells.length then
            c { val := .int .i64 (Nat.min ys.length n : Nat), upd := [(b, .box (setCells cells j (copyNew cells j s τ ys n)))], fp := b :: fp } else none
        | _ => none
      | .sl b i m g => copyRowE M τ ys fp b i m g c
      | _ => none
    | none => none
  | none => none

def lenE (T : TypeId → TT) (M : Mem) (t : TypeId) (x : V) (c : Eff → Option R) : Option R :=
  match (T t).kind, x with
  | .str, .str s => c { val := .int .i64 (s.size : Nat) }
  | .array n _, _ => c { val := .int .i64 (n : Nat) }
  | .slice _, .sl b i m g => match M b with
    | .row _ l g' _ => bif Nat.beq g g' then c { val := .int .i64 (lenOf l i m : Nat), fp := [b] } else none
    | _ => none
  | .slice _, .fz _ l => c { val := .int .i64 (l.length : Nat) }
  | .slice _, .nils => c { val := .int .i64 (0 : Nat) }
  | .map _ _, .mp b => match M b with
    | .mp _ _ l => c { val := .int .i64 (l.length : Nat), fp := [b] }
    | _ => none
  | .slice _, .sb b _ _ n => match M b with
    | .box _ => c { val := .int .i64 (n : Nat), fp := [b] }
    | _ => none
  | _, _ => none

/-! ### Maps -/
/-- a map's keys, its elements' type -/
def mapKT (T : TypeId → TT) (t : TypeId) : Option (IntKind × TypeId) :=
  match (T t).kind with
  | .map k e => match (T k).kind with
    | .int q => some (q, e)
    | _ => none
  | _ => none
def putL {α : Type} (n : Int) (x : α) : List (Int × α) → List (Int × α)
  | [] => [(n, x)]
  | p :: r => bif decide (p.1 = n) then (n, x) :: r else p :: putL n x r
def getL {α : Type} (n : Int) (d : α) : List (Int × α) → α
  | [] => d
  | p :: r => bif decide (p.1 = n) then p.2 else getL n d r
def hasL {α : Type} (n : Int) : List (Int × α) → Bool
  | [] => false
  | p :: r => bif decide (p.1 = n) then true else hasL n r
def makeMapE (T : TypeId → TT) (M : Mem) (id : Nat) (t : TypeId) (c : Eff → Option R) : Option R :=
  match mapKT T t with
  | some (q, e) => match (T e).ty with
    | some τ => newE M id (.mp q τ []) (.mp id) [] [] c
    | none => none
  | none => none
def mapUpdateE (T : TypeId → TT) (M : Mem) (t : TypeId) (m k x : V) (c : Eff → Option R) : Option R :=
  match mapKT T t, m, k with
  | some (q, _), .mp b, .int q' n => match M b with
    | .mp q2 τ l => bif decide (q = q2) && decide (q' = q2) then (match dec τ [x] with
      | some (y, []) => bif (Lit.int q2 n).wf then c { val := .dead, upd := [(b, .mp q2 τ (putL n y l))], fp := [b] } else none
      | _ => none) else none
    | _ => none
  | _, _, _ => none
def lookupE (T : TypeId → TT) (M : Mem) (t : TypeId) (m k : V) (ok : Bool) (c : Eff → Option R) : Option R :=
  match mapKT T t, m, k with
  | some (q, e), .mp b, .int q' n => match M b with
    | .mp q2 τ l => bif decide (q = q2) && decide (q' = q2) && (T e).pl && Nat.beq τ.size 1 then (match (T e).zero with
      | some z => match dec τ z with
        | some (d, []) => bif ok then c { val := .tup [(enc τ (getL n d l)).headD .dead, .bool (hasL n l)], fp := [b] } else c { val := (enc τ (getL n d l)).headD .dead, fp := [b] }
        | _ => none
      | none => none) else none
    | _ => none
  | _, _, _ => none
def nilCheckE (M : Mem) (a : V) (c : Eff → Option R) : Option R := bif validP M a then c { val := a, fp := fpOf a } else none

def minE (isMax : Bool) (x y : V) (c : Eff → Option R) : Option R :=
  match x, y with
  | .int k a, .int _ b => bif isMax then c { val := .int k (if b > a then b else a) } else c { val := .int k (if b < a then b else a) }
  | _, _ => none

def max3E (x y z : V) (c : Eff → Option R) : Option R :=
  match x, y, z with
  | .int k a, .int _ b, .int _ d => c { val := .int k (if d > (if b > a then b else a) then d else if b > a then b else a) }
  | _, _, _ => none

def builtinE (T : TypeId → TT) (M : Mem) (id : Nat) (b : Builtin) (ts : List TypeId) (args : List V) (c : Eff → Option R) : Option R :=
  match b, ts, args with
  | .len, t :: _, x :: _ => lenE T M t x c
  | .append, t :: t2 :: _, s :: x :: _ => match (T t2).kind with
    | .slice _ => appendE T M id t s x c
    | _ => none
  | .copy, t :: _, d :: x :: _ => copyE T M t d x c
  | .min, _, [x, y] => minE false x y c
  | .max, _, [x, y] => minE true x y c
  | .max, _, [x, y, z] => max3E x y z c
  | _, _, _ => none

/-- one operation -/
def opE (T : TypeId → TT) (callE : FuncId → List V → Mem → Nat → (Eff → Option R) → Option R) (id : Nat) (o : Op) (ev : Operand → V) (M : Mem) (c : Eff → Option R) : Option R :=
  match o with
  | .move x => c { val := ev x }
  | .assign x => c { val := ev x }
  | .pick q a b => match ev q with
    | .bool t => c { val := V.sel t (ev a) (ev b) }
    | _ => none
  | .alloc t => allocE T M id t c
  | .box _ x => boxE M id (ev x) c
  | .build t parts => buildE T t (parts.toList.map fun p => (p.1, ev p.2)) c
  | .buildSlice t n parts => buildSliceF T M id t n (parts.toList.map fun p => (p.1, ev p.2)) c
  | .load t a => loadE T M t (ev a) c
  | .store t a x => storeE T M t (ev a) (ev x) c
  | .binOp op t x y _ => binE T op t (ev x) (ev y) c
  | .unOp op _ x => unE op (ev x) c
  | .convert s d x => convE T s d (ev x) c
  | .makeFunc (.func f) first cap => bif first.isEmpty then c { val := .fn f (cap.toList.map ev) } else none
  | .makeSlice t l m => makeSliceE T M id t (ev l) (ev m) c
  | .slice t x lo hi mx => sliceE T M t (ev x) (lo.map ev) (hi.map ev) (mx.map ev) c
  | .fieldAddr s x f => fieldAddrE T M s (ev x) f c
  | .field s x f => fieldE T s (ev x) f c
  | .indexAddr t x i => indexAddrE T M t (ev x) (ev i) c
  | .index t x i => indexE T t (ev x) (ev i) c
  | .makeMap t none => makeMapE T M id t c
  | .mapUpdate t m k x => mapUpdateE T M t (ev m) (ev k) (ev x) c
  | .lookup t x i ok => lookupE T M t (ev x) (ev i) ok c
  | .nilCheck x => nilCheckE M (ev x) c
  | .extract x i => match ev x with
    | .tup vs => match vs[i]? with
      | some v => c { val := v }
      | none => none
    | _ => none
  | .call q => match q.callee with
    | .value f => match ev f with
      | .fn g cap => callE g (q.args.toList.map ev ++ cap) M id c
      | _ => none
    | .builtin b => builtinE T M id b q.argTypes.toList (q.args.toList.map ev) c
    | _ => none
  | _ => none

end
end Go.Pv
/-! ### The abstract run of code, in continuation-passing form. -/
namespace Go.Pv

section
variable {R : Type}

def setT (ρ : Nat → V) (t : Nat) (v : V) : Nat → V := fun x => bif Nat.beq x t then v else ρ x

/-- the temporary that an operation of the region leaves its value in -/
def dstOf (ops : List Oper) (j : Nat) : Option Nat := (ops[j]?).bind (·.dst)

/-- a guard: is the operation wanted? what is known of the guard's temporary afterwards -/
def guardE (ops : List Oper) (ρ : Nat → V) (g : Option (Nat × Bool)) (yes no : (Nat → V) → Option R) : Option R :=
  match g with
  | none => yes ρ
  | some (j, want) => match dstOf ops j with
    | some t => match ρ t with
      | .bool b => bif b then (bif want then yes (setT ρ t (.bool true)) else no (setT ρ t (.bool true)))
          else (bif want then no (setT ρ t (.bool false)) else yes (setT ρ t (.bool false)))
      | .tup vs => match vs with
        | [] => no ρ
        | _ => none
      | _ => none
    | none => none

/-- a value into its temporary (there are nt of them) -/
def dstE (nt : Nat) (ρ : Nat → V) (d : Option Nat) (v : V) (k : (Nat → V) → Option R) : Option R :=
  match d with
  | some d => bif Nat.blt d nt then k (setT ρ d v) else none
  | none => k ρ

/-- the operations of a region, in the order of the text -/
def opsE (T : TypeId → TT) (callE : FuncId → List V → Mem → Nat → (Eff → Option R) → Option R) (nt : Nat) (all : List Oper) : List Oper → Nat → (Nat → V) → Mem → ((Nat → V) → Mem → Nat → Option R) → Option R
  | [], id, ρ, M, c => c ρ M id
  | o :: r, id, ρ, M, c =>
    guardE all ρ o.guard
      (fun ρ => opE T callE id o.op (evO ρ) M fun e => e.val.force fun v => forceU M e.upd fun M => dstE nt ρ o.dst v fun ρ => forceN (id + 1) fun id => opsE T callE nt all r id ρ M c)
      (fun ρ => dstE nt ρ o.dst (.tup []) fun ρ => forceN (id + 1) fun id => opsE T callE nt all r id ρ M c)

/-! ### A region whose order is drawn: the text's order, and that it does not matter -/
/-- what an operation has done to what -/
structure Rc where
  o : Oper
  reads : List Nat
  wr : List Nat
  fp : List Nat

def tmpOf : Operand → Option Nat
  | .tmp t => some t
  | _ => none

def readsOf (all : List Oper) (o : Oper) : List Nat :=
  o.op.operands.toList.filterMap tmpOf ++ (match o.guard with
    | some (j, _) => (dstOf all j).toList
    | none => [])

def hasN (t : Nat) : List Nat → Bool
  | [] => false
  | x :: r => Nat.beq t x || hasN t r

def disj : List Nat → List Nat → Bool
  | [], _ => true
  | x :: r, l => !hasN x l && disj r l

def dstIn (d : Option Nat) (l : List Nat) : Bool :=
  match d with
  | some t => hasN t l
  | none => false

def apartR (p q : Rc) : Bool :=
  !dstIn p.o.dst q.reads && !dstIn q.o.dst p.reads && !dstIn p.o.dst q.o.dst.toList && disj p.wr q.fp && disj q.wr p.fp

/-- does o wait for operation i? -/
def waits (o : Oper) (i : Nat) : Bool := o.after.toList.any fun e => Nat.beq e.on i && Region.binds .any e

def dirs (o : Oper) : List Nat := (o.after.toList.filter fun e => Region.binds .any e).map (·.on)

/-- whom each operation waits for, through others too -/
def ancAdd (acc : List (List Nat)) : List Nat → List Nat → List Nat
  | [], s => s
  | e :: r, s => ancAdd acc r (bif hasN e s then s else e :: (acc.getD e [] ++ s))

def ancs : List Oper → List (List Nat) → List (List Nat)
  | [], acc => acc
  | o :: r, acc => ancs r (acc ++ [ancAdd acc (dirs o) []])

def indepWith (A : List (List Nat)) (i : Nat) (p : Rc) : Nat → List Rc → Bool
  | _, [] => true
  | j, q :: r => (hasN i (A.getD j []) || apartR p q) && indepWith A i p (j + 1) r

def indepFrom (A : List (List Nat)) : Nat → List Rc → Bool
  | _, [] => true
  | i, p :: r => indepWith A i p (i + 1) r && indepFrom A (i + 1) r

/-- every operation waits for earlier ones alone -/
def edgesOk : Nat → List Oper → Bool
  | _, [] => true
  | j, o :: r => (o.after.toList.all fun e => !Region.binds .any e || Nat.blt e.on j) && edgesOk (j + 1) r

def opsD (T : TypeId → TT) (callE : FuncId → List V → Mem → Nat → (Eff → Option R) → Option R) (nt : Nat) (all : List Oper) : List Oper → Nat → (Nat → V) → Mem → List Rc → ((Nat → V) → Mem → Nat → Option R) → Option R
  | [], id, ρ, M, rs, c => bif indepFrom (ancs all []) 0 rs && edgesOk 0 all then c ρ M id else none
  | o :: r, id, ρ, M, rs, c =>
    guardE all ρ o.guard
      (fun ρ => opE T callE id o.op (evO ρ) M fun e => e.val.force fun v => forceU M e.upd fun M => dstE nt ρ o.dst v fun ρ => forceN (id + 1) fun id => opsD T callE nt all r id ρ M (rs ++ [⟨o, readsOf all o, e.upd.map (·.1), e.fp⟩]) c)
      (fun ρ => dstE nt ρ o.dst (.tup []) fun ρ => forceN (id + 1) fun id => opsD T callE nt all r id ρ M (rs ++ [⟨o, readsOf all o, [], []⟩]) c)

inductive Ex where
  | normal | exit (id : Nat) | ret

abbrev Kont (R : Type) := Ex → (Nat → V) → Mem → Nat → Option R

def codeE (T : TypeId → TT) (callE : FuncId → List V → Mem → Nat → (Eff → Option R) → Option R) (nt : Nat) (hook : Code → Option ((Nat → V) → Mem → Nat → Kont R → Option R)) :
    Nat → Code → (Nat → V) → Mem → Nat → Kont R → Option R
  | 0, _, _, _, _, _ => none
  | n + 1, code, ρ, M, nx, K =>
    match hook code with
    | some h => h ρ M nx K
    | none =>
    match code with
    | .skip => K .normal ρ M nx
    | .region _ ops draw => bif draw then opsD T callE nt ops.toList ops.toList nx ρ M [] fun ρ M nx => K .normal ρ M nx
        else opsE T callE nt ops.toList ops.toList nx ρ M fun ρ M nx => K .normal ρ M nx
    | .seq a b => codeE T callE nt hook n a ρ M nx fun e ρ M nx => match e with
      | .normal => codeE T callE nt hook n b ρ M nx K
      | .exit id => K (.exit id) ρ M nx
      | .ret => K .ret ρ M nx
    | .cond c a b => match c with
      | .tmp t => match ρ t with
        | .bool q => bif q then codeE T callE nt hook n a (setT ρ t (.bool true)) M nx K else codeE T callE nt hook n b (setT ρ t (.bool false)) M nx K
        | _ => none
      | _ => none
    | .block id body => codeE T callE nt hook n body ρ M nx fun e ρ M nx => match e with
      | .normal => K .normal ρ M nx
      | .exit id' => bif Nat.beq id' id then K .normal ρ M nx else K (.exit id') ρ M nx
      | .ret => K .ret ρ M nx
    | .loop body => codeE T callE nt hook n body ρ M nx fun e ρ M nx => match e with
      | .normal => codeE T callE nt hook n (.loop body) ρ M nx K
      | .exit id => K (.exit id) ρ M nx
      | .ret => K .ret ρ M nx
    | .exit id => K (.exit id) ρ M nx
    | .ret => K .ret ρ M nx
    | _ => none

/-- a function's frame: its parameters -/
def paramsE : List V → Nat → Nat → V
  | [], _ => fun _ => .dead
  | v :: r, i => setT (paramsE r (i + 1)) i v

/-- its results -/
def resE (T : TypeId → TT) (ρ : Nat → V) (M : Mem) : List ResultVar → Option (List V)
  | [] => some []
  | .tmp t :: r => match resE T ρ M r with
    | some vs => some (ρ t :: vs)
    | none => none
  | .cell a t :: r => match loadE T M t (ρ a) (fun e => some e.val) with
    | some v => match resE T ρ M r with
      | some vs => some (v :: vs)
      | none => none
    | none => none

def retV : List V → V
  | [v] => v
  | vs => .tup vs

end
end Go.Pv
/-! ### What it means that an abstract run of an operation is right; operations that leave memory alone. -/
namespace Go.Pv

/-- The operation, from values and memory that the abstract ones stand for, does what the effect says. -/
def OpOK (P : Program) (o : Oper) (ev : Operand → V) (M : Mem) (eff : Eff) : Prop :=
  (∀ b, b ∈ eff.upd.map (·.1) → b ∈ eff.fp) ∧
  ∀ (M2 : Mem), (∀ b ∈ eff.fp, M2 b = M b) → ∀ (β : Nat → Option Loc) (Z : Nat → Prop) (a : Act) (w : World), RMem β M2 Z w.heap →
    (∀ x ∈ o.op.operands.toList, RV β M2 Z w.heap (ev x) (a.eval x)) →
    ∀ (next : Act → World → Prop) (Q : Exit → Act → World → Prop),
      (∀ v' w' β' Z', RV β' (M2.upds eff.upd) Z' w'.heap eff.val v' → RMem β' (M2.upds eff.upd) Z' w'.heap →
        EvW β M2 Z w β' (M2.upds eff.upd) Z' w' → next (a.put o.dst v') w') → o.wp P a w next Q

section
variable {P : Program} {o : Oper} {ev : Operand → V} {M : Mem} {R : Type}

theorem OpOK.of_run {eff : Eff} (hu : ∀ b, b ∈ eff.upd.map (·.1) → b ∈ eff.fp)
    (h : ∀ (M2 : Mem), (∀ b ∈ eff.fp, M2 b = M b) → ∀ (β : Nat → Option Loc) (Z : Nat → Prop) (a : Act) (w : World), RMem β M2 Z w.heap →
      (∀ x ∈ o.op.operands.toList, RV β M2 Z w.heap (ev x) (a.eval x)) →
      ∃ v' w' β' Z', ((execOp a.eval o).run P w = .ok (.value v') w' ∨ ((execOp a.eval o).run P w = .ok .skip w' ∧ v' = undef)) ∧
        RV β' (M2.upds eff.upd) Z' w'.heap eff.val v' ∧ RMem β' (M2.upds eff.upd) Z' w'.heap ∧ EvW β M2 Z w β' (M2.upds eff.upd) Z' w') :
    OpOK P o ev M eff := by
  refine ⟨hu, fun M2 hM β Z a w hm hx next Q hn => ?_⟩
  obtain ⟨v', w', β', Z', hr, h1, h2, h3⟩ := h M2 hM β Z a w hm hx
  unfold Oper.wp
  rcases hr with hr | ⟨hr, rfl⟩
  · rw [hr, Oper.upon_value]; exact hn _ _ _ _ h1 h2 h3
  · rw [hr, Oper.upon_skip]; exact hn _ _ _ _ h1 h2 h3

/-- an operation that only computes -/
theorem OpOK.pure {eff : Eff} (hu : eff.upd = [])
    (h : ∀ (M2 : Mem), (∀ b ∈ eff.fp, M2 b = M b) → ∀ (β : Nat → Option Loc) (Z : Nat → Prop) (a : Act) (w : World), RMem β M2 Z w.heap →
      (∀ x ∈ o.op.operands.toList, RV β M2 Z w.heap (ev x) (a.eval x)) →
      ∃ v', (execOp a.eval o).run P w = .ok (.value v') w ∧ RV β M2 Z w.heap eff.val v') : OpOK P o ev M eff := by
  refine OpOK.of_run (by rw [hu]; simp) fun M2 hM β Z a w hm hx => ?_
  obtain ⟨v', h1, h2⟩ := h M2 hM β Z a w hm hx
  refine ⟨v', w, β, Z, .inl h1, ?_, ?_, ?_⟩ <;> rw [hu]
  · exact h2
  · exact hm
  · exact EvW.refl _ _ _ _

/-! ### Readings of values -/
variable {β : Nat → Option Loc} {M2 : Mem} {Z : Nat → Prop} {h : Heap}

theorem RV.int_inv {k : IntKind} {n : Int} {v : Value} (r : RV β M2 Z h (.int k n) v) : v = .int k n := by cases r; rfl
theorem RV.bool_inv {b : Bool} {v : Value} (r : RV β M2 Z h (.bool b) v) : v = .bool b := by cases r; rfl
theorem RV.str_inv {s : ByteArray} {v : Value} (r : RV β M2 Z h (.str s) v) : v = .string s := by cases r; rfl
theorem RV.nils_inv {v : Value} (r : RV β M2 Z h .nils v) : v = .slice none 0 0 := by cases r; rfl
theorem RV.agg_inv {cs : List V} {v : Value} (r : RV β M2 Z h (.agg cs) v) : ∃ vs : Array Value, v = .agg vs ∧ cs.length = vs.size ∧ ∀ i (hi : i < cs.length), RV β M2 Z h cs[i] (vs.getD i undef) := by
  cases r with | agg _ vs hl hc => exact ⟨vs, rfl, hl, hc⟩
theorem RV.tup_inv {cs : List V} {v : Value} (r : RV β M2 Z h (.tup cs) v) : ∃ vs : Array Value, v = .tuple vs ∧ cs.length = vs.size ∧ ∀ i (hi : i < cs.length), RV β M2 Z h cs[i] (vs.getD i undef) := by
  cases r with | tup _ vs hl hc => exact ⟨vs, rfl, hl, hc⟩
theorem RV.fn_inv {f : FuncId} {cs : List V} {v : Value} (r : RV β M2 Z h (.fn f cs) v) : ∃ vs : Array Value, v = .func (.func f) #[] vs ∧ cs.length = vs.size ∧ ∀ i (hi : i < cs.length), RV β M2 Z h cs[i] (vs.getD i undef) := by
  cases r with | fn _ _ vs hl hc => exact ⟨vs, rfl, hl, hc⟩

theorem RV.mp_inv {b : Nat} {v : Value} (r : RV β M2 Z h (.mp b) v) (hm : RMem β M2 Z h) {q : IntKind} {τ : Ty} {l : List (Int × τ.den)} (hb : M2 b = .mp q τ l) :
    ∃ cb es clock, v = .map (some cb) ∧ β b = some (.at cb 0 1 0) ∧ h[cb]? = some (.map es clock) ∧ MapData h Z q τ l es clock := by
  have hrb := hm.blk b
  unfold RB at hrb
  rw [hb] at hrb
  obtain ⟨cb, es, clock, e1, e2, e3⟩ := hrb
  cases r with
  | mp _ _ h1 hn hg =>
    obtain ⟨cb', base, sz, top, f1, f2⟩ := hg 0 (by rw [hb]; rfl) rfl
    rw [e1] at f1
    cases f1
    exact ⟨cb, es, clock, f2, e1, e2, e3⟩

/-- Lists of abstract values and of values. -/
def RL (β : Nat → Option Loc) (M : Mem) (Z : Nat → Prop) (h : Heap) (cs : List V) (vs : List Value) : Prop :=
  cs.length = vs.length ∧ ∀ (i : Nat) (x : V) (v : Value), cs[i]? = some x → vs[i]? = some v → RV β M Z h x v

theorem RL.nil : RL β M2 Z h [] [] := ⟨rfl, fun i x v hx _ => by simp at hx⟩

theorem RL.cons {x : V} {v : Value} {cs : List V} {vs : List Value} (hx : RV β M2 Z h x v) (hr : RL β M2 Z h cs vs) : RL β M2 Z h (x :: cs) (v :: vs) := by
  refine ⟨by simp [hr.1], fun i y u hy hu => ?_⟩
  cases i with
  | zero => simp at hy hu; subst hy; subst hu; exact hx
  | succ i => simp at hy hu; exact hr.2 i y u hy hu

theorem RL.cons_inv {x : V} {cs : List V} {vs : List Value} (hr : RL β M2 Z h (x :: cs) vs) : ∃ v vs', vs = v :: vs' ∧ RV β M2 Z h x v ∧ RL β M2 Z h cs vs' := by
  obtain ⟨hl, hc⟩ := hr
  cases vs with
  | nil => simp at hl
  | cons v vs' => exact ⟨v, vs', rfl, hc 0 x v (by simp) (by simp), by simpa using hl, fun i y u hy hu => hc (i + 1) y u (by simpa using hy) (by simpa using hu)⟩

theorem RL.of_arr {cs : List V} {vs : Array Value} (hl : cs.length = vs.size) (hc : ∀ i (hi : i < cs.length), RV β M2 Z h cs[i] (vs.getD i undef)) : RL β M2 Z h cs vs.toList := by
  refine ⟨by simpa using hl, fun i x v hx hv => ?_⟩
  obtain ⟨hi, rfl⟩ := List.getElem?_eq_some_iff.1 hx
  have := hc i hi
  have hv' : vs.getD i undef = v := by
    simp only [Array.getElem?_toList] at hv
    simp [Array.getD_eq_getD_getElem?, hv]
  rwa [hv'] at this

theorem RL.to_arr {cs : List V} {vs : Array Value} (hr : RL β M2 Z h cs vs.toList) : cs.length = vs.size ∧ ∀ i (hi : i < cs.length), RV β M2 Z h cs[i] (vs.getD i undef) := by
  refine ⟨by simpa using hr.1, fun i hi => hr.2 i _ _ (List.getElem?_eq_getElem hi) ?_⟩
  have hi' : i < vs.size := by have := hr.1; simp at this; omega
  simp [Array.getD_eq_getD_getElem?, hi']

theorem RL.append {c1 c2 : List V} {v1 v2 : List Value} (h1 : RL β M2 Z h c1 v1) (h2 : RL β M2 Z h c2 v2) : RL β M2 Z h (c1 ++ c2) (v1 ++ v2) := by
  refine ⟨by simp [h1.1, h2.1], fun i x v hx hv => ?_⟩
  have e := h1.1
  by_cases hi : i < c1.length
  · rw [List.getElem?_append_left hi] at hx
    rw [List.getElem?_append_left (by omega)] at hv
    exact h1.2 i x v hx hv
  · rw [List.getElem?_append_right (by omega)] at hx
    rw [List.getElem?_append_right (by omega)] at hv
    rw [e] at hx
    exact h2.2 _ x v hx hv

theorem RL.drop {cs : List V} {vs : List Value} (hr : RL β M2 Z h cs vs) (n : Nat) : RL β M2 Z h (cs.drop n) (vs.drop n) :=
  ⟨by simp [hr.1], fun i x v hx hv => hr.2 (n + i) x v (by simpa using hx) (by simpa using hv)⟩

theorem RL.take {cs : List V} {vs : List Value} (hr : RL β M2 Z h cs vs) (n : Nat) : RL β M2 Z h (cs.take n) (vs.take n) := by
  refine ⟨by simp [hr.1], fun i x v hx hv => ?_⟩
  rw [List.getElem?_take] at hx hv
  split at hx
  · rw [if_pos ‹_›] at hv; exact hr.2 i x v hx hv
  · cases hx

theorem RL.set {cs : List V} {vs : List Value} (hr : RL β M2 Z h cs vs) (n : Nat) {x : V} {v : Value} (hx : RV β M2 Z h x v) : RL β M2 Z h (cs.set n x) (vs.set n v) := by
  refine ⟨by simp [hr.1], fun i y u hy hu => ?_⟩
  rw [List.getElem?_set] at hy hu
  split at hy
  · rename_i e
    rw [if_pos e] at hu
    split at hy
    · split at hu
      · cases hy; cases hu; exact hx
      · cases hu
    · cases hy
  · rename_i e
    rw [if_neg e] at hu
    exact hr.2 i y u hy hu

theorem RL.mono {β' : Nat → Option Loc} {M' : Mem} {Z' : Nat → Prop} {h' : Heap} (g : Grow β M2 Z h β' M' Z' h') {cs : List V} {vs : List Value} (hr : RL β M2 Z h cs vs) : RL β' M' Z' h' cs vs :=
  ⟨hr.1, fun i x v hx hv => (hr.2 i x v hx hv).mono g⟩

/-- the cells of data -/
theorem RL.of_RD : ∀ {τ : Ty} {x : τ.den} {cs : List Value}, RD h Z τ x cs → RL β M2 Z h (enc τ x) cs
  | .unit, _, cs, hh => by simp only [RD] at hh; subst hh; exact RL.nil
  | .bool, b, cs, hh => by simp only [RD] at hh; subst hh; exact RL.cons (.bool b) RL.nil
  | .str, s, cs, hh => by simp only [RD] at hh; subst hh; exact RL.cons (.str s) RL.nil
  | .int k, n, cs, hh => by simp only [RD] at hh; subst hh; exact RL.cons (.int k n) RL.nil
  | .pair a b, x, cs, hh => by
    have h1 : RL β M2 Z h _ _ := RL.of_RD hh.1
    have h2 : RL β M2 Z h _ _ := RL.of_RD hh.2
    have := h1.append h2
    rwa [List.take_append_drop] at this
  | .slice e, l, cs, hh => by
    have hl := RD.length hh
    obtain ⟨v, rfl⟩ : ∃ v, cs = [v] := by
      cases cs with
      | nil => simp [Ty.size] at hl
      | cons v r => cases r with
        | nil => exact ⟨v, rfl⟩
        | cons _ _ => simp [Ty.size] at hl
    exact RL.cons (.fz e l v hh) RL.nil

theorem enc_length : ∀ (τ : Ty) (x : τ.den), (enc τ x).length = τ.size
  | .unit, _ => rfl
  | .bool, _ => rfl
  | .str, _ => rfl
  | .int _, _ => rfl
  | .pair a b, x => by simp [enc, Ty.size, enc_length a x.1, enc_length b x.2]
  | .slice _, _ => rfl

/-- what is decoded stands for the cells -/
theorem dec_ok : ∀ {τ : Ty} {cs : List V} {vs : List Value} {x : τ.den} {r : List V}, dec τ cs = some (x, r) → RL β M2 Z h cs vs →
    RD h Z τ x (vs.take τ.size) ∧ RL β M2 Z h r (vs.drop τ.size)
  | .unit, cs, vs, x, r, hd, hr => by
    simp only [dec, Option.some.injEq, Prod.mk.injEq] at hd
    obtain ⟨_, rfl⟩ := hd
    exact ⟨by simp [RD, Ty.size], by simpa [Ty.size] using hr⟩
  | .bool, cs, vs, x, r, hd, hr => by
    cases cs with
    | nil => simp [dec] at hd
    | cons c cs =>
      cases c <;> simp only [dec, reduceCtorEq] at hd
      rename_i b
      simp only [Option.some.injEq, Prod.mk.injEq] at hd
      obtain ⟨rfl, rfl⟩ := hd
      obtain ⟨v, vs', rfl, h1, h2⟩ := hr.cons_inv
      exact ⟨by simp [RD, Ty.size, h1.bool_inv], by simpa [Ty.size] using h2⟩
  | .str, cs, vs, x, r, hd, hr => by
    cases cs with
    | nil => simp [dec] at hd
    | cons c cs =>
      cases c <;> simp only [dec, reduceCtorEq] at hd
      rename_i b
      simp only [Option.some.injEq, Prod.mk.injEq] at hd
      obtain ⟨rfl, rfl⟩ := hd
      obtain ⟨v, vs', rfl, h1, h2⟩ := hr.cons_inv
      exact ⟨by simp [RD, Ty.size, h1.str_inv], by simpa [Ty.size] using h2⟩
  | .int k, cs, vs, x, r, hd, hr => by
    cases cs with
    | nil => simp [dec] at hd
    | cons c cs =>
      cases c <;> simp only [dec, reduceCtorEq] at hd
      rename_i k' n
      split at hd
      · rename_i e
        subst e
        simp only [Option.some.injEq, Prod.mk.injEq] at hd
        obtain ⟨rfl, rfl⟩ := hd
        obtain ⟨v, vs', rfl, h1, h2⟩ := hr.cons_inv
        exact ⟨by simp [RD, Ty.size, h1.int_inv], by simpa [Ty.size] using h2⟩
      · cases hd
  | .pair a b, cs, vs, x, r, hd, hr => by
    simp only [dec] at hd
    cases h1 : dec a cs with
    | none => rw [h1] at hd; cases hd
    | some p =>
      obtain ⟨x1, r1⟩ := p
      rw [h1] at hd
      simp only at hd
      cases h2 : dec b r1 with
      | none => rw [h2] at hd; cases hd
      | some p =>
        obtain ⟨x2, r2⟩ := p
        rw [h2] at hd
        simp only [Option.some.injEq, Prod.mk.injEq] at hd
        obtain ⟨rfl, rfl⟩ := hd
        obtain ⟨a1, a2⟩ := dec_ok h1 hr
        obtain ⟨b1, b2⟩ := dec_ok h2 a2
        refine ⟨⟨?_, ?_⟩, ?_⟩
        · rw [List.take_take]; simpa [Ty.size] using a1
        · rw [List.drop_take]; simpa [Ty.size] using b1
        · simpa [Ty.size, List.drop_drop] using b2
  | .slice e, cs, vs, x, r, hd, hr => by
    cases cs with
    | nil => simp [dec] at hd
    | cons c cs =>
      cases c <;> simp only [dec, reduceCtorEq] at hd
      · simp only [Option.some.injEq, Prod.mk.injEq] at hd
        obtain ⟨rfl, rfl⟩ := hd
        obtain ⟨v, vs', rfl, h1, h2⟩ := hr.cons_inv
        exact ⟨by simp only [RD, Ty.size]; left; exact ⟨⟨none, 0, by simp [h1.nils_inv]⟩, trivial⟩, by simpa [Ty.size] using h2⟩
      · rename_i e' l
        split at hd
        · rename_i he
          subst he
          simp only [Option.some.injEq, Prod.mk.injEq] at hd
          obtain ⟨rfl, rfl⟩ := hd
          obtain ⟨v, vs', rfl, h1, h2⟩ := hr.cons_inv
          cases h1 with
          | fz _ _ _ hd => exact ⟨by simpa [Ty.size] using hd, by simpa [Ty.size] using h2⟩
        · cases hd

end
end Go.Pv
/-! ### Moves, arithmetic, comparison, conversion: the abstract run is right. -/
namespace Go.Pv

/-- the table tells the truth -/
def TOK (P : Program) (T : TypeId → TT) : Prop := ∀ t, (T t).kind = .bad ∨ T t = TT.of P t

theorem TOK.info {P : Program} {T : TypeId → TT} (hT : TOK P T) {t : TypeId} (h : (T t).kind ≠ .bad) : ∃ i d, P.info? t = some i ∧ P.underlying t = some d ∧
    (T t).kind = K.of d ∧ (T t).size = i.size ∧ (T t).bytes = i.bytes ∧ (T t).zero = i.zero.map (fun z => z.cells.toList.map V.ofValue) ∧
    (T t).ty = tyOf P 12 t ∧ (T t).eqok = (!(P.eqGuardType P.depth t) && !(P.stoodInHeld t)) := by
  rcases hT t with h' | h'
  · exact absurd h' h
  · rw [h'] at h ⊢; exact TT.of_ok h

theorem TOK.plz {P : Program} {T : TypeId → TT} (hT : TOK P T) {t : TypeId} (h : (T t).pl = true) : ∃ i z, P.info? t = some i ∧ i.zero = some z ∧ plainZ z = true ∧ (T t).zero = some [V.ofValue z] := by
  have hk : (T t).kind ≠ .bad := fun e => by unfold TT.pl at h; rw [e] at h; cases h
  have hp : (T t).plz = true := by
    unfold TT.pl at h
    cases e : (T t).kind <;> rw [e] at h <;> first | exact h | cases h
  rcases hT t with h' | h'
  · exact absurd h' hk
  · rw [h'] at hp ⊢
    unfold TT.of at hp ⊢
    cases h1 : P.info? t with
    | none => simp [h1, TT.bad] at hp
    | some i => cases h2 : P.underlying t with
      | none => simp [h1, h2, TT.bad] at hp
      | some d =>
        simp only [h1, h2] at hp ⊢
        cases hz : i.zero with
        | none => rw [hz] at hp; cases hp
        | some z =>
          rw [hz] at hp
          have hp : plainZ z = true := hp
          refine ⟨i, z, rfl, hz, hp, ?_⟩
          cases z <;> simp [plainZ] at hp <;> simp [Value.cells]

/-- an abstract run of an operation, right whatever follows -/
def SOp (P : Program) (o : Oper) (ev : Operand → V) (M : Mem) {R : Type} (run : (Eff → Option R) → Option R) : Prop :=
  ∀ (c : Eff → Option R) (r : R), run c = some r → ∃ eff, OpOK P o ev M eff ∧ c eff = some r

section
variable {P : Program} {T : TypeId → TT} {o : Oper} {ev : Operand → V} {M : Mem} {R : Type}
variable {β : Nat → Option Loc} {M2 : Mem} {Z : Nat → Prop} {h : Heap}

theorem RV.sel {c : Bool} {x y : V} {vx vy : Value} (hx : RV β M2 Z h x vx) (hy : RV β M2 Z h y vy) : RV β M2 Z h (V.sel c x y) (if c then vx else vy) := by
  have gen : RV β M2 Z h (bif c then x else y) (if c then vx else vy) := by cases c <;> simpa
  unfold V.sel
  split
  · rename_i k a k' b
    by_cases e : k = k'
    · subst e
      simp only [decide_true, cond_true]
      rw [hx.int_inv, hy.int_inv]
      cases c <;> exact .int _ _
    · simp only [e, decide_false, cond_false]; exact gen
  · rw [hx.bool_inv, hy.bool_inv]; cases c <;> exact .bool _
  · rw [hx.str_inv, hy.str_inv]; cases c <;> exact .str _
  · exact gen

theorem move_ok {x : Operand} (ho : o.op = .move x ∨ o.op = .assign x) : SOp P o ev M (R := R) fun c => c { val := ev x } := by
  intro c r hr
  refine ⟨_, OpOK.pure rfl fun M2 _ β Z a w hm hx => ⟨a.eval x, ?_, hx x ?_⟩, hr⟩
  · rcases ho with ho | ho <;> simp [execOp, ho]
  · rcases ho with ho | ho <;> simp [ho, Op.operands]

theorem pick_ok {q x y : Operand} (ho : o.op = .pick q x y) {t : Bool} (ht : ev q = .bool t) : SOp P o ev M (R := R) fun c => c { val := V.sel t (ev x) (ev y) } := by
  intro c r hr
  refine ⟨_, OpOK.pure rfl fun M2 _ β Z a w hm hx => ⟨if t then a.eval x else a.eval y, ?_, ?_⟩, hr⟩
  · have hq := hx q (by simp [ho, Op.operands])
    rw [ht] at hq
    simp [execOp, ho, hq.bool_inv, asBool]
  · exact RV.sel (hx x (by simp [ho, Op.operands])) (hx y (by simp [ho, Op.operands]))

/-- two operands, a result without memory -/
theorem bin_of {op : BinOp} {t : TypeId} {x y : Operand} {ty : TypeId} (ho : o.op = .binOp op t x y ty) {c : Eff → Option R} {r : R} {val : V} (hc : c { val := val } = some r)
    (h : ∀ (vx vy : Value) (β : Nat → Option Loc) (M2 : Mem) (Z : Nat → Prop) (w : World), RV β M2 Z w.heap (ev x) vx → RV β M2 Z w.heap (ev y) vy →
      ∃ v, (eqGuard op t x y vx vy).run P w = .ok () w ∧ (binOp op t vx vy).run P w = .ok v w ∧ RV β M2 Z w.heap val v) :
    ∃ eff, OpOK P o ev M eff ∧ c eff = some r := by
  refine ⟨_, OpOK.pure rfl fun M2 _ β Z a w hm hx => ?_, hc⟩
  obtain ⟨v, h1, h2, h3⟩ := h (a.eval x) (a.eval y) β M2 Z w (hx x (by simp [ho, Op.operands])) (hx y (by simp [ho, Op.operands]))
  refine ⟨v, ?_, h3⟩
  simp [execOp, ho, h1, h2]

theorem binInt_ok {op : BinOp} {t : TypeId} {x y : Operand} {ty : TypeId} (ho : o.op = .binOp op t x y ty) {k : IntKind} {a b : Int} (hx : ev x = .int k a) (hy : ev y = .int k b)
    (hs : op ≠ .shl ∧ op ≠ .shr) : SOp P o ev M (R := R) (binInt op k a b) := by
  intro c r hr
  have key : ∀ val, c { val := val } = some r → (∃ n, val = .int k n ∧ ∀ w : World, (binOp op t (.int k a) (.int k b)).run P w = .ok (.int k n) w) ∨ (∃ q, val = .bool q ∧ ∀ w : World, (binOp op t (.int k a) (.int k b)).run P w = .ok (.bool q) w) →
      ∃ eff, OpOK P o ev M eff ∧ c eff = some r := by
    intro val hc hv
    refine bin_of ho hc fun vx vy β M2 Z w h1 h2 => ?_
    rw [hx] at h1; rw [hy] at h2
    rw [h1.int_inv, h2.int_inv]
    rcases hv with ⟨n, rfl, hv⟩ | ⟨q, rfl, hv⟩
    · exact ⟨_, by rw [eqGuard_at_int]; rfl, hv w, .int _ _⟩
    · exact ⟨_, by rw [eqGuard_at_int]; rfl, hv w, .bool _⟩
  unfold binInt at hr
  cases op <;> simp only [reduceCtorEq, ne_eq, not_false_eq_true] at hr hs
  all_goals first
    | (refine key _ hr (.inl ⟨_, rfl, fun w => ?_⟩); simp only [binOp, ne_eq, not_true_eq_false, if_false]; rfl)
    | (refine key _ hr (.inr ⟨_, rfl, fun w => ?_⟩); simp only [binOp, ne_eq, not_true_eq_false, if_false]; rfl)
    | (by_cases hb : b = 0
       · simp [hb] at hr
       · simp only [hb, decide_false, cond_false] at hr
         exact key _ hr (.inl ⟨_, rfl, fun w => by simp [binOp, Op.intDiv, hb]⟩))

theorem shift_ok {op : BinOp} {t : TypeId} {x y : Operand} {ty : TypeId} (ho : o.op = .binOp op t x y ty) {k k' : IntKind} {a b : Int} (hx : ev x = .int k a) (hy : ev y = .int k' b)
    {c : Eff → Option R} {r : R}
    (h : (op = .shl ∧ 0 ≤ b ∧ c { val := .int k (k.wrap (a * 2 ^ (min b.toNat k.bits))) } = some r) ∨ (op = .shr ∧ 0 ≤ b ∧ c { val := .int k (a.fdiv (2 ^ (min b.toNat k.bits))) } = some r)) :
    ∃ eff, OpOK P o ev M eff ∧ c eff = some r := by
  rcases h with ⟨rfl, hb, hc⟩ | ⟨rfl, hb, hc⟩ <;>
  · refine bin_of ho hc fun vx vy β M2 Z w h1 h2 => ?_
    rw [hx] at h1; rw [hy] at h2
    rw [h1.int_inv, h2.int_inv]
    refine ⟨_, by rw [eqGuard_at_int]; rfl, ?_, .int _ _⟩
    have : ¬ b < 0 := by omega
    simp [binOp, Op.shift, this]

theorem binStr_ok {op : BinOp} {t : TypeId} {x y : Operand} {ty : TypeId} (ho : o.op = .binOp op t x y ty) {a b : ByteArray} (hx : ev x = .str a) (hy : ev y = .str b) :
    SOp P o ev M (R := R) (binStr op a b) := by
  intro c r hr
  have key : ∀ val, c { val := val } = some r → (∃ n, val = .str n ∧ ∀ w : World, (binOp op t (.string a) (.string b)).run P w = .ok (.string n) w) ∨ (∃ q, val = .bool q ∧ ∀ w : World, (binOp op t (.string a) (.string b)).run P w = .ok (.bool q) w) →
      ∃ eff, OpOK P o ev M eff ∧ c eff = some r := by
    intro val hc hv
    refine bin_of ho hc fun vx vy β M2 Z w h1 h2 => ?_
    rw [hx] at h1; rw [hy] at h2
    rw [h1.str_inv, h2.str_inv]
    have hg : (eqGuard op t x y (.string a) (.string b)).run P w = .ok () w := by cases op <;> rfl
    rcases hv with ⟨n, rfl, hv⟩ | ⟨q, rfl, hv⟩
    · exact ⟨_, hg, hv w, .str _⟩
    · exact ⟨_, hg, hv w, .bool _⟩
  unfold binStr at hr
  cases op <;> simp only [reduceCtorEq] at hr
  all_goals first
    | exact key _ hr (.inr ⟨_, rfl, fun w => by simp [binOp, Op.stringOp]⟩)
    | (by_cases hb : (((a.size + b.size : Nat) : Int) > IntKind.i64.max)
       · rw [decide_eq_true hb] at hr; cases hr
       · rw [decide_eq_false hb] at hr
         exact key _ hr (.inl ⟨_, rfl, fun w => by simp only [binOp, Op.stringOp, if_neg hb]; rfl⟩))

/-! ### Equality by shape -/
/-- a value and its cells -/
def isVal (agg : Bool) (v : Value) (cs : List Value) : Prop := if agg then v = .agg cs.toArray else cs = [v]

theorem run_part' {t : TypeId} {d : TypeDesc} {i : TypeInfo} (hd : P.underlying t = some d) (hi : P.info? t = some i) {xs : Array Value} {off : Nat} {v : Value} (w : World)
    (hv : isVal (K.of d).agg v ((xs.toList.drop off).take i.size)) : (part t xs off).run P w = .ok v w := by
  unfold part
  unfold isVal at hv
  simp only [Sem.run_bind, run_isAgg hd, Result.andThen_ok]
  cases ha : (K.of d).agg
  · simp only [ha, Bool.false_eq_true, if_false] at hv ⊢
    rw [getElem?_of_chunk hv]; rfl
  · simp only [ha, if_true] at hv ⊢
    simp only [Sem.run_bind, run_sizeOf' hi, Result.andThen_ok, Sem.run_pure, hv]
    congr 2
    apply Array.ext'
    simp [List.take_drop]

theorem RL.one_inv {x : V} {vs : List Value} (r : RL β M2 Z h [x] vs) : ∃ v, vs = [v] ∧ RV β M2 Z h x v := by
  obtain ⟨v, vs', rfl, h1, h2⟩ := r.cons_inv
  have := h2.1
  cases vs' with
  | nil => exact ⟨v, rfl, h1⟩
  | cons _ _ => simp at this

theorem isVal_exists (agg : Bool) {cs : List Value} (h : agg = false → cs.length = 1) : ∃ v, isVal agg v cs := by
  cases agg
  · have := h rfl
    cases cs with
    | nil => simp at this
    | cons v r => cases r with
      | nil => exact ⟨v, rfl⟩
      | cons _ _ => simp at this
  · exact ⟨_, rfl⟩

theorem eqE_one (hT : TOK P T) {n : Nat} {t : TypeId} {xs ys : List V} {b : Bool} (he : eqE T n t xs ys = some b) {d : TypeDesc} (hd : P.underlying t = some d) :
    (K.of d).agg = false → xs.length = 1 ∧ ys.length = 1 := by
  intro ha
  cases n with
  | zero => simp [eqE] at he
  | succ n =>
    unfold eqE at he
    have hk : (T t).kind ≠ .bad := fun hk => by simp [hk] at he
    obtain ⟨i, d', h1, h2, h3, _⟩ := hT.info hk
    rw [hd] at h2; cases h2
    rw [h3] at he
    cases d <;> simp only [K.of, K.agg, reduceCtorEq] at he ha
    all_goals
      split at he <;> first | (cases he; done) | exact ⟨rfl, rfl⟩

theorem eqE_ok (hT : TOK P T) : ∀ (n : Nat) (t : TypeId) (xs ys : List V) (b : Bool), eqE T n t xs ys = some b → ∀ (d : TypeDesc), P.underlying t = some d →
    ∀ (vxs vys : List Value) (vx vy : Value), RL β M2 Z h xs vxs → RL β M2 Z h ys vys → isVal (K.of d).agg vx vxs → isVal (K.of d).agg vy vys →
    ∀ (w : World) (e : Nat), (Op.equalIn (e + n) t vx vy).run P w = .ok b w := by
  intro n
  induction n with
  | zero => intro t xs ys b he; simp [eqE] at he
  | succ n ih =>
    intro t xs ys b he d hd vxs vys vx vy rx ry ix iy w e
    have he0 := he
    unfold eqE at he
    have hk : (T t).kind ≠ .bad := fun hk => by simp [hk] at he
    obtain ⟨i, d', h1, h2, h3, h4, h5, h6, h7, h8⟩ := hT.info hk
    rw [hd] at h2; cases h2
    rw [h3] at he
    cases d <;> simp only [K.of, reduceCtorEq] at he
    case bool =>
      simp only [isVal, K.of, K.agg, Bool.false_eq_true, if_false] at ix iy
      split at he
      · rename_i a b'
        obtain ⟨v1, e1, r1⟩ := rx.one_inv
        obtain ⟨v2, e2, r2⟩ := ry.one_inv
        rw [e1] at ix; rw [e2] at iy
        cases ix; cases iy
        rw [r1.bool_inv, r2.bool_inv]
        cases he
        rw [← Nat.add_assoc]
        exact run_equalIn_bool' w _ t a b' hd
      · cases he
    case int k =>
      simp only [isVal, K.of, K.agg, Bool.false_eq_true, if_false] at ix iy
      split at he
      · rename_i k1 a k2 b'
        obtain ⟨v1, e1, r1⟩ := rx.one_inv
        obtain ⟨v2, e2, r2⟩ := ry.one_inv
        rw [e1] at ix; rw [e2] at iy
        cases ix; cases iy
        rw [r1.int_inv, r2.int_inv]
        by_cases hk : k1 = k2
        · subst hk
          simp only [decide_true, cond_true] at he
          cases he
          rw [← Nat.add_assoc]
          exact run_equalIn_int w _ t k1 k a b' hd
        · simp [hk] at he
      · cases he
    case string =>
      simp only [isVal, K.of, K.agg, Bool.false_eq_true, if_false] at ix iy
      split at he
      · rename_i a b'
        obtain ⟨v1, e1, r1⟩ := rx.one_inv
        obtain ⟨v2, e2, r2⟩ := ry.one_inv
        rw [e1] at ix; rw [e2] at iy
        cases ix; cases iy
        rw [r1.str_inv, r2.str_inv]
        cases he
        rw [← Nat.add_assoc]
        exact run_equalIn_string w _ t a b' hd
      · cases he
    case struct fs =>
      simp only [isVal, K.of, K.agg, if_true] at ix iy
      subst ix; subst iy
      cases hq : (T t).eqok with
      | false => rw [hq] at he; cases he
      | true =>
        rw [hq] at he
        simp only [cond_true] at he
        rw [hq] at h8
        have hst : P.stoodInHeld t = false := by
          cases hs : P.stoodInHeld t with
          | false => rfl
          | true => rw [hs] at h8; simp at h8
        have hfo : P.fieldsOf t = fs := by simp [Program.fieldsOf, hd]
        rw [← Nat.add_assoc, run_equalIn_struct w _ t _ _ (by rw [hfo]; exact hd) hst, hfo]
        -- the fields, one after the other
        clear hfo hd he0 h1 h3 h4 h5 h6 h7 h8 hk
        generalize fs.toList = l at he
        induction l generalizing b with
        | nil => simp only [List.map_nil, eqE.eqFs, Option.some.injEq] at he; subst he; simp [Op.eqFields]
        | cons f l ihl =>
          simp only [List.map_cons, eqE.eqFs] at he
          cases hb : (f.name == "_") with
          | true => rw [hb] at he; cases he
          | false =>
            rw [hb] at he
            simp only [cond_false] at he
            split at he
            · rename_i b1 hb1
              split at he
              · rename_i b2 hb2
                cases he
                have hne : f.name ≠ "_" := by simpa using hb
                have hkf : (T f.type).kind ≠ .bad := fun hkf => by
                  cases n with
                  | zero => simp [eqE] at hb1
                  | succ n => unfold eqE at hb1; simp [hkf] at hb1
                obtain ⟨i', df, g1, g2, g3, g4, _⟩ := hT.info hkf
                rw [g4] at hb1
                have rx' := (rx.drop f.offset).take i'.size
                have ry' := (ry.drop f.offset).take i'.size
                have hone := eqE_one hT hb1 g2
                obtain ⟨ux, iux⟩ := isVal_exists (K.of df).agg (fun ha => by rw [← rx'.1]; exact (hone ha).1)
                obtain ⟨uy, iuy⟩ := isVal_exists (K.of df).agg (fun ha => by rw [← ry'.1]; exact (hone ha).2)
                have p1 := run_part' g2 g1 (xs := vxs.toArray) w (by simpa using iux)
                have p2 := run_part' g2 g1 (xs := vys.toArray) w (by simpa using iuy)
                have p3 := ih f.type _ _ _ hb1 df g2 _ _ _ _ rx' ry' iux iuy w e
                simp only [Op.eqFields, hne, ne_eq, not_false_eq_true, if_true, Sem.run_bind, p1, p2, p3, Result.andThen_ok]
                cases b1
                · simp
                · simp only [Bool.not_true, Bool.false_eq_true, if_false, Bool.true_and]
                  exact ihl b2 hb2
              · cases he
            · cases he
    case array len el =>
      simp only [isVal, K.of, K.agg, if_true] at ix iy
      subst ix; subst iy
      have hke : (T el).kind ≠ .bad := fun hke => by simp [hke] at he
      obtain ⟨i', de, g1, g2, g3, g4, _⟩ := hT.info hke
      have he' : eqE.eqIs (eqE T n el) (T el).size xs ys len 0 = some b := by
        revert he; cases (T el).kind <;> simp
      clear he
      rw [← Nat.add_assoc, run_equalIn_array w _ _ _ hd g1, List.range_eq_range']
      have hco : P.cellsOf el = i'.size := by simp [Program.cellsOf, g1]
      rw [hco]; rw [g4] at he'
      clear hd he0 h1 h3 h4 h5 h6 h7 h8 hk hco
      generalize 0 = j at he'
      induction len generalizing b j with
      | zero => simp only [eqE.eqIs, Option.some.injEq] at he'; subst he'; simp [Op.eqItems]
      | succ len ihl =>
        simp only [eqE.eqIs] at he'
        split at he'
        · rename_i b1 hb1
          split at he'
          · rename_i b2 hb2
            cases he'
            have rx' := (rx.drop (j * i'.size)).take i'.size
            have ry' := (ry.drop (j * i'.size)).take i'.size
            have hone := eqE_one hT hb1 g2
            obtain ⟨ux, iux⟩ := isVal_exists (K.of de).agg (fun ha => by rw [← rx'.1]; exact (hone ha).1)
            obtain ⟨uy, iuy⟩ := isVal_exists (K.of de).agg (fun ha => by rw [← ry'.1]; exact (hone ha).2)
            have p1 := run_part' g2 g1 (xs := vxs.toArray) w (by simpa using iux)
            have p2 := run_part' g2 g1 (xs := vys.toArray) w (by simpa using iuy)
            have p3 := ih el _ _ _ hb1 de g2 _ _ _ _ rx' ry' iux iuy w e
            simp only [List.range'_succ, Op.eqItems, Sem.run_bind, p1, p2, p3, Result.andThen_ok]
            cases b1
            · simp
            · simp only [Bool.not_true, Bool.false_eq_true, if_false, Bool.true_and]
              exact ihl b2 (j + 1) hb2
          · cases he'
        · cases he'

theorem RV.agg_RL {cs : List V} {v : Value} (r : RV β M2 Z h (.agg cs) v) : ∃ vs : List Value, v = .agg vs.toArray ∧ RL β M2 Z h cs vs := by
  obtain ⟨vs, rfl, hl, hc⟩ := r.agg_inv
  exact ⟨vs.toList, by simp, RL.of_arr hl hc⟩

theorem binE_ok (hT : TOK P T) {op : BinOp} {t : TypeId} {x y : Operand} {ty : TypeId} (ho : o.op = .binOp op t x y ty) : SOp P o ev M (R := R) (binE T op t (ev x) (ev y)) := by
  intro c r hr
  unfold binE at hr
  cases hx : ev x <;> cases hy : ev y <;> simp only [hx, hy, reduceCtorEq] at hr
  case bool.bool a b =>
    split at hr
    · rename_i hk
      obtain ⟨i, d, h1, h2, h3, _⟩ := hT.info (t := t) (by rw [hk]; simp)
      have hd : d = .bool := by rw [hk] at h3; cases d <;> simp [K.of] at h3 ⊢
      subst hd
      have hg : ∀ w : World, (eqGuard op t x y (.bool a) (.bool b)).run P w = .ok () w := fun w => by rw [eqGuard_at_bool]; rfl
      cases op <;> simp only [reduceCtorEq] at hr
      all_goals
        refine bin_of ho hr fun vx vy β M2 Z w q1 q2 => ?_
        rw [hx] at q1; rw [hy] at q2
        rw [q1.bool_inv, q2.bool_inv]
        refine ⟨_, hg w, ?_, .bool _⟩
        simp [binOp, Op.equal, Op.maxDepth, run_equalIn_bool' w _ t a b h2]
    · cases hr
  case int.int k a k' b =>
    by_cases h1 : op = .shl
    · subst h1
      by_cases hb : b < 0
      · simp [hb] at hr
      · simp only [hb, decide_false, cond_false] at hr
        exact shift_ok ho hx hy (.inl ⟨rfl, by omega, hr⟩)
    · by_cases h2 : op = .shr
      · subst h2
        by_cases hb : b < 0
        · simp [hb] at hr
        · simp only [hb, decide_false, cond_false] at hr
          exact shift_ok ho hx hy (.inr ⟨rfl, by omega, hr⟩)
      · have hr' : (bif decide (k = k') then binInt op k a b c else none) = some r := by
          cases op <;> simp_all
        by_cases hk : k = k'
        · subst hk
          simp only [decide_true, cond_true] at hr'
          exact binInt_ok ho hx hy ⟨h1, h2⟩ c r hr'
        · simp [hk] at hr'
  case str.str a b => exact binStr_ok ho hx hy c r hr
  case agg.agg xs ys =>
    cases hqq : ((T t).eqok && (T t).kind.agg) with
    | false => rw [hqq] at hr; cases hr
    | true =>
      rw [hqq] at hr
      simp only [cond_true] at hr
      obtain ⟨hq, hka⟩ := (Bool.and_eq_true _ _).mp hqq
      split at hr
      · rename_i b hb
        have hk : (T t).kind ≠ .bad := fun hk => by unfold eqE at hb; simp [hk] at hb
        obtain ⟨i, d, h1, h2, h3, _, _, _, _, h8⟩ := hT.info hk
        rw [hq] at h8
        have hg0 : P.eqGuardType P.depth t = false := by
          cases hs : P.eqGuardType P.depth t with
          | false => rfl
          | true => rw [hs] at h8; simp at h8
        have key : ∀ vx vy β M2 Z (w : World), RV β M2 Z w.heap (ev x) vx → RV β M2 Z w.heap (ev y) vy → ∃ us vs : List Value, vx = .agg us.toArray ∧ vy = .agg vs.toArray ∧
            (Op.equalIn 10000 t (.agg us.toArray) (.agg vs.toArray)).run P w = .ok b w := by
          intro vx vy β M2 Z w q1 q2
          rw [hx] at q1; rw [hy] at q2
          obtain ⟨us, rfl, r1⟩ := q1.agg_RL
          obtain ⟨vs, rfl, r2⟩ := q2.agg_RL
          have hagg : (K.of d).agg = true := by rw [← h3]; exact hka
          exact ⟨us, vs, rfl, rfl, eqE_ok hT 12 t xs ys b hb d h2 us vs _ _ r1 r2 (by simp [isVal, hagg]) (by simp [isVal, hagg]) w 9988⟩
        cases op <;> simp only [reduceCtorEq] at hr
        all_goals
          refine bin_of ho hr fun vx vy β M2 Z w q1 q2 => ?_
          obtain ⟨us, vs, rfl, rfl, hrun⟩ := key vx vy β M2 Z w q1 q2
          refine ⟨_, run_eqGuard_agg w _ t x y _ _ hg0, ?_, .bool _⟩
          first
            | rw [run_eql_struct, hrun, Result.andThen_ok]
            | rw [run_neq_struct, hrun, Result.andThen_ok]
      · cases hr

end
end Go.Pv
/-! ### Operations without memory: unary ones, conversions, closures, parts of aggregates, min and max. -/
namespace Go.Pv
section
variable {P : Program} {T : TypeId → TT} {o : Oper} {ev : Operand → V} {M : Mem} {R : Type}
variable {β : Nat → Option Loc} {M2 : Mem} {Z : Nat → Prop} {h : Heap}

theorem unE_ok {op : UnOp} {t : TypeId} {x : Operand} (ho : o.op = .unOp op t x) : SOp P o ev M (R := R) (unE op (ev x)) := by
  intro c r hr
  have key : ∀ val, c { val := val } = some r → (∀ (vx : Value) (β : Nat → Option Loc) (M2 : Mem) (Z : Nat → Prop) (w : World), RV β M2 Z w.heap (ev x) vx →
      ∃ v, (Op.unary op vx).run P w = .ok v w ∧ RV β M2 Z w.heap val v) → ∃ eff, OpOK P o ev M eff ∧ c eff = some r := by
    intro val hc hv
    refine ⟨_, OpOK.pure rfl fun M2 _ β Z a w hm hx => ?_, hc⟩
    obtain ⟨v, h1, h2⟩ := hv (a.eval x) β M2 Z w (hx x (by simp [ho, Op.operands]))
    exact ⟨v, by simp [execOp, ho, h1], h2⟩
  unfold unE at hr
  cases hx : ev x <;> cases op <;> simp only [hx, reduceCtorEq] at hr key
  · exact key _ hr fun vx β M2 Z w q => by rw [q.bool_inv]; exact ⟨_, by simp only [Op.unary]; rfl, .bool _⟩
  · exact key _ hr fun vx β M2 Z w q => by rw [q.int_inv]; exact ⟨_, by simp only [Op.unary, Op.intArith]; rfl, .int _ _⟩
  · exact key _ hr fun vx β M2 Z w q => by rw [q.int_inv]; exact ⟨_, by simp only [Op.unary, Op.intBits]; rfl, .int _ _⟩

theorem convE_ok (hT : TOK P T) {s d : TypeId} {x : Operand} (ho : o.op = .convert s d x) : SOp P o ev M (R := R) (convE T s d (ev x)) := by
  intro c r hr
  have hks : (T s).kind ≠ .bad := fun hk => by simp [convE, hk] at hr
  obtain ⟨i1, d1, a1, a2, _⟩ := hT.info hks
  have hr' : (match (T d).kind, ev x with
    | .int k, .int _ n => c { val := .int k (k.wrap n) }
    | .str, .str s => c { val := .str s }
    | _, _ => none) = some r := by
    unfold convE at hr; revert hr; cases (T s).kind <;> first | exact id | (intro hh; cases hh)
  have hkd : (T d).kind ≠ .bad := fun hk => by simp [hk] at hr'
  obtain ⟨i2, d2, b1, b2, b3, _⟩ := hT.info hkd
  rw [b3] at hr'
  cases d2 <;> cases hx : ev x <;> simp only [K.of, hx, reduceCtorEq] at hr'
  case int.int k k' n =>
    refine ⟨_, OpOK.pure rfl fun M2 _ β Z a w hm hxs => ?_, hr'⟩
    have q := hxs x (by simp [ho, Op.operands])
    rw [hx] at q
    refine ⟨_, ?_, .int _ _⟩
    simp [execOp, ho, q.int_inv, convert, run_underlying a2, run_underlying b2, Conv.intToInt]
  case string.str st =>
    refine ⟨_, OpOK.pure rfl fun M2 _ β Z a w hm hxs => ?_, hr'⟩
    have q := hxs x (by simp [ho, Op.operands])
    rw [hx] at q
    refine ⟨_, ?_, .str _⟩
    simp [execOp, ho, q.str_inv, convert, run_underlying a2, run_underlying b2]

theorem RL.map_ops {ops : List Operand} {a : Act} (hx : ∀ x ∈ ops, RV β M2 Z h (ev x) (a.eval x)) : RL β M2 Z h (ops.map ev) (ops.map a.eval) := by
  induction ops with
  | nil => exact RL.nil
  | cons x l ih => exact RL.cons (hx x (by simp)) (ih fun y hy => hx y (by simp [hy]))

theorem makeFunc_ok {f : FuncId} {first cap : Array Operand} (ho : o.op = .makeFunc (.func f) first cap) (hf : first.isEmpty = true) :
    SOp P o ev M (R := R) fun c => c { val := .fn f (cap.toList.map ev) } := by
  intro c r hr
  refine ⟨_, OpOK.pure rfl fun M2 _ β Z a w hm hx => ?_, hr⟩
  have hf' : first = #[] := by simpa using hf
  subst hf'
  have hl : RL β M2 Z w.heap (cap.toList.map ev) (cap.map a.eval).toList := by
    rw [Array.toList_map]
    exact RL.map_ops fun x hxx => hx x (by simp [ho, Op.operands, hxx])
  refine ⟨.func (.func f) #[] (cap.map a.eval), by simp [execOp, ho, Instr.makeFunc], ?_⟩
  obtain ⟨h1, h2⟩ := hl.to_arr
  exact .fn f _ _ h1 h2

theorem extract_ok {x : Operand} {i : Nat} (ho : o.op = .extract x i) {vs : List V} (hx : ev x = .tup vs) {v : V} (hv : vs[i]? = some v) :
    SOp P o ev M (R := R) fun c => c { val := v } := by
  intro c r hr
  refine ⟨_, OpOK.pure rfl fun M2 _ β Z a w hm hxs => ?_, hr⟩
  have q := hxs x (by simp [ho, Op.operands])
  rw [hx] at q
  obtain ⟨us, e, hl, hc⟩ := q.tup_inv
  obtain ⟨hi, rfl⟩ := List.getElem?_eq_some_iff.1 hv
  have hi' : i < us.size := by omega
  refine ⟨us[i], ?_, ?_⟩
  · simp [execOp, ho, e, Instr.extract, hi']
  · have := hc i hi
    simpa [Array.getD_eq_getD_getElem?, hi'] using this

/-! ### Columns -/
theorem ints?_spec {k : IntKind} : ∀ {col : List V} {l : List Int}, ints? k col = some l → col = l.map (V.int k)
  | [], l, hh => by simp only [ints?, Option.some.injEq] at hh; subst hh; rfl
  | v :: r, l, hh => by
    cases v <;> simp only [ints?, reduceCtorEq] at hh
    rename_i k' n
    by_cases e : k' = k
    · subst e
      simp only [decide_true, cond_true] at hh
      split at hh
      · rename_i l' hl'; cases hh; rw [ints?_spec hl']; rfl
      · cases hh
    · simp [e] at hh

theorem bools?_spec : ∀ {col : List V} {l : List Bool}, bools? col = some l → col = l.map V.bool
  | [], l, hh => by simp only [bools?, Option.some.injEq] at hh; subst hh; rfl
  | v :: r, l, hh => by
    cases v <;> simp only [bools?, reduceCtorEq] at hh
    split at hh
    · rename_i l' hl'; cases hh; rw [bools?_spec hl']; rfl
    · cases hh

theorem strs?_spec : ∀ {col : List V} {l : List ByteArray}, strs? col = some l → col = l.map V.str
  | [], l, hh => by simp only [strs?, Option.some.injEq] at hh; subst hh; rfl
  | v :: r, l, hh => by
    cases v <;> simp only [strs?, reduceCtorEq] at hh
    split at hh
    · rename_i l' hl'; cases hh; rw [strs?_spec hl']; rfl
    · cases hh

theorem at_eq (x : Nat) (col : List V) (hx : x < col.length) : V.at x col = col[x] := by
  have gen : col.getD x V.dead = col[x] := by simp [List.getD, hx]
  unfold V.at
  split
  · split
    · rename_i l hl
      have e := ints?_spec hl
      have hx' : x < l.length := by rw [e] at hx; simpa using hx
      rw [List.getElem_of_eq e]
      simp [List.getD, hx']
    · exact gen
  · split
    · rename_i l hl
      have e := bools?_spec hl
      have hx' : x < l.length := by rw [e] at hx; simpa using hx
      rw [List.getElem_of_eq e]
      simp [List.getD, hx']
    · exact gen
  · split
    · rename_i l hl
      have e := strs?_spec hl
      have hx' : x < l.length := by rw [e] at hx; simpa using hx
      rw [List.getElem_of_eq e]
      simp [List.getD, hx']
    · exact gen
  · exact gen

theorem pick_eq {cells : List V} {j e n x o s : Nat} (hx : x < n) (ho : o + s ≤ e) (hl : j + n * e ≤ cells.length) :
    pick cells j e n x o s = (cells.drop (j + x * e + o)).take s := by
  have hxe : x * e + e ≤ n * e := by
    have : (x + 1) * e ≤ n * e := Nat.mul_le_mul_right e hx
    rw [Nat.add_mul] at this; omega
  apply List.ext_getElem
  · simp [pick]; omega
  · intro r h1 h2
    have hr : r < s := by simpa [pick] using h1
    simp only [pick, List.getElem_map, List.getElem_range, List.getElem_take, List.getElem_drop]
    rw [at_eq _ _ (by simpa using hx)]
    simp only [List.getElem_map, List.getElem_range]
    have : j + (x * e + (o + r)) < cells.length := by omega
    simp [List.getD, this, Nat.add_assoc]

theorem mkv_ok {agg : Bool} {cells : List V} {vs : List Value} {v : Value} (hr : RL β M2 Z h cells vs) (hv : isVal agg v vs) : RV β M2 Z h (mkv agg cells) v := by
  unfold mkv isVal at *
  cases agg
  · simp only [Bool.false_eq_true, if_false] at hv
    subst hv
    obtain ⟨hl, hc⟩ := hr
    cases cells with
    | nil => simp at hl
    | cons c r => simpa using hc 0 c v (by simp) (by simp)
  · simp only [if_true] at hv
    subst hv
    obtain ⟨h1, h2⟩ := (show RL β M2 Z h cells vs.toArray.toList by simpa using hr).to_arr
    exact .agg _ _ h1 h2

theorem fieldE_ok (hT : TOK P T) {s : TypeId} {x : Operand} {f : Nat} (ho : o.op = .field s x f) : SOp P o ev M (R := R) (fieldE T s (ev x) f) := by
  intro c r hr
  unfold fieldE at hr
  have hks : (T s).kind ≠ .bad := fun hk => by simp [hk] at hr
  obtain ⟨i1, d1, a1, a2, a3, _⟩ := hT.info hks
  rw [a3] at hr
  cases d1 <;> cases hx : ev x <;> simp only [K.of, hx, reduceCtorEq] at hr
  rename_i fs cs
  simp only [List.getElem?_map, Array.getElem?_toList] at hr
  cases hf : fs[f]? with
  | none => simp [hf] at hr
  | some q =>
    simp only [hf, Option.map_some] at hr
    have hkq : (T q.type).kind ≠ .bad := fun hk => by simp [hk] at hr
    obtain ⟨i2, d2, b1, b2, b3, b4, _⟩ := hT.info hkq
    have hr' : (bif Nat.ble (q.offset + i2.size) cs.length && ((K.of d2).agg || Nat.beq i2.size 1) then c { val := mkv (K.of d2).agg ((cs.drop q.offset).take i2.size) } else none) = some r := by
      rw [b3, b4] at hr
      revert hr; rw [b3] at hkq; cases hkk : K.of d2 <;> simp_all
    cases hb : (Nat.ble (q.offset + i2.size) cs.length && ((K.of d2).agg || Nat.beq i2.size 1)) with
    | false => rw [hb] at hr'; cases hr'
    | true =>
      rw [hb] at hr'
      simp only [cond_true] at hr'
      obtain ⟨hb1, hb2⟩ := (Bool.and_eq_true _ _).mp hb
      have hb1' := Nat.le_of_ble_eq_true hb1
      refine ⟨_, OpOK.pure rfl fun M2 _ β Z a w hm hxs => ?_, hr'⟩
      have q0 := hxs x (by simp [ho, Op.operands])
      rw [hx] at q0
      obtain ⟨vs, e, hl⟩ := q0.agg_RL
      have hl2 := (hl.drop q.offset).take i2.size
      obtain ⟨v, hv⟩ := isVal_exists (K.of d2).agg (cs := (vs.drop q.offset).take i2.size) (fun ha => by
        have h1 := hl.1
        rw [ha] at hb2
        have h2 : i2.size = 1 := by simpa using hb2
        simp only [List.length_take, List.length_drop]; omega)
      refine ⟨v, ?_, mkv_ok hl2 hv⟩
      have p := run_part' b2 b1 (xs := vs.toArray) w (by simpa using hv)
      simp [execOp, ho, e, Instr.field, run_underlying a2, hf, asAgg, p]

theorem inRange_iff {x : Int} {n : Nat} : inRange x n = true ↔ 0 ≤ x ∧ x < n := by simp [inRange]

theorem indexE_ok (hT : TOK P T) {t : TypeId} {x y : Operand} (ho : o.op = .index t x y) : SOp P o ev M (R := R) (indexE T t (ev x) (ev y)) := by
  intro c r hr
  unfold indexE at hr
  have hkt : (T t).kind ≠ .bad := fun hk => by simp [hk] at hr
  obtain ⟨i1, d1, a1, a2, a3, _⟩ := hT.info hkt
  rw [a3] at hr
  cases d1 <;> cases hx : ev x <;> cases hy : ev y <;> simp only [K.of, hx, hy, reduceCtorEq] at hr
  case string.str.int s k n =>
    cases hb : inRange n s.size with
    | false => rw [hb] at hr; cases hr
    | true =>
      rw [hb] at hr
      simp only [cond_true] at hr
      obtain ⟨h1, h2⟩ := inRange_iff.1 hb
      refine ⟨_, OpOK.pure rfl fun M2 _ β Z a w hm hxs => ?_, hr⟩
      have q1 := hxs x (by simp [ho, Op.operands])
      have q2 := hxs y (by simp [ho, Op.operands])
      rw [hx] at q1; rw [hy] at q2
      refine ⟨_, ?_, .int _ _⟩
      have hlt : n.toNat < s.size := by omega
      have e1 : s[n.toNat]? = some s[n.toNat] := by simp [hlt]
      have e2 : s.data.getD n.toNat 0 = s[n.toNat] := by
        have : n.toNat < s.data.size := hlt
        rw [Array.getD_eq_getD_getElem?, Array.getElem?_eq_getElem this]; rfl
      simp [execOp, ho, q1.str_inv, q2.int_inv, Instr.index, asIntOf, run_underlying a2, h1, e1, e2]
  case array.agg.int n el cs k xi =>
    have hke : (T el).kind ≠ .bad := fun hk => by simp [hk] at hr
    obtain ⟨i2, d2, b1, b2, b3, b4, _⟩ := hT.info hke
    have hr' : (bif Nat.ble (n * i2.size) cs.length && ((K.of d2).agg || Nat.beq i2.size 1) then (bif inRange xi n then c { val := mkv (K.of d2).agg (pick cs 0 i2.size n xi.toNat 0 i2.size) } else none) else none) = some r := by
      rw [b3, b4] at hr
      revert hr; rw [b3] at hke; cases hkk : K.of d2 <;> simp_all
    cases hb : (Nat.ble (n * i2.size) cs.length && ((K.of d2).agg || Nat.beq i2.size 1)) with
    | false => rw [hb] at hr'; cases hr'
    | true =>
      rw [hb] at hr'
      simp only [cond_true] at hr'
      obtain ⟨hb1, hb2⟩ := (Bool.and_eq_true _ _).mp hb
      have hb1' := Nat.le_of_ble_eq_true hb1
      cases hin : inRange xi n with
      | false => rw [hin] at hr'; cases hr'
      | true =>
        rw [hin] at hr'
        simp only [cond_true] at hr'
        obtain ⟨h1, h2⟩ := inRange_iff.1 hin
        have hxn : xi.toNat < n := by omega
        refine ⟨_, OpOK.pure rfl fun M2 _ β Z a w hm hxs => ?_, hr'⟩
        have q1 := hxs x (by simp [ho, Op.operands])
        have q2 := hxs y (by simp [ho, Op.operands])
        rw [hx] at q1; rw [hy] at q2
        obtain ⟨vs, e, hl⟩ := q1.agg_RL
        have hpe : pick cs 0 i2.size n xi.toNat 0 i2.size = (cs.drop (xi.toNat * i2.size)).take i2.size := by
          rw [pick_eq hxn (by omega) (by omega)]; simp
        have hl2 := (hl.drop (xi.toNat * i2.size)).take i2.size
        have hle : xi.toNat * i2.size + i2.size ≤ n * i2.size := by
          have : (xi.toNat + 1) * i2.size ≤ n * i2.size := Nat.mul_le_mul_right _ hxn
          rw [Nat.add_mul] at this; omega
        obtain ⟨v, hv⟩ := isVal_exists (K.of d2).agg (cs := (vs.drop (xi.toNat * i2.size)).take i2.size) (fun ha => by
          have h3 := hl.1
          rw [ha] at hb2
          have h4 : i2.size = 1 := by simpa using hb2
          simp only [List.length_take, List.length_drop]; omega)
        refine ⟨v, ?_, by rw [hpe]; exact mkv_ok hl2 hv⟩
        have p := run_part' b2 b1 (xs := vs.toArray) w (by simpa using hv)
        simp [execOp, ho, e, q2.int_inv, Instr.index, asIntOf, run_underlying a2, h1, h2, run_sizeOf' b1, p]

/-! ### Built-in functions without memory -/
theorem minE_ok {q : Call} {isMax : Bool} {x y : Operand} (ho : o.op = .call q) (hq : q.callee = .builtin (if isMax then .max else .min)) (hargs : q.args = #[x, y]) :
    SOp P o ev M (R := R) (minE isMax (ev x) (ev y)) := by
  intro c r hr
  unfold minE at hr
  cases hx : ev x <;> cases hy : ev y <;> simp only [hx, hy, reduceCtorEq] at hr
  rename_i k n k' m
  cases isMax
  · simp only [cond_false, Bool.false_eq_true, if_false] at hr hq
    refine ⟨_, OpOK.pure rfl fun M2 _ β Z a w hm hxs => ?_, hr⟩
    have q1 := hxs x (by simp [ho, Op.operands, Call.operands, hargs, hq])
    have q2 := hxs y (by simp [ho, Op.operands, Call.operands, hargs, hq])
    rw [hx] at q1; rw [hy] at q2
    exact ⟨_, by simp [execOp, ho, resolve, hq, hargs, invoke, builtin, Builtin.min_, q1.int_inv, q2.int_inv, Builtin.min2], .int _ _⟩
  · simp only [cond_true, if_true] at hr hq
    refine ⟨_, OpOK.pure rfl fun M2 _ β Z a w hm hxs => ?_, hr⟩
    have q1 := hxs x (by simp [ho, Op.operands, Call.operands, hargs, hq])
    have q2 := hxs y (by simp [ho, Op.operands, Call.operands, hargs, hq])
    rw [hx] at q1; rw [hy] at q2
    exact ⟨_, by simp [execOp, ho, resolve, hq, hargs, invoke, builtin, Builtin.max_, q1.int_inv, q2.int_inv, Builtin.max2], .int _ _⟩

theorem max3E_ok {q : Call} {x y z : Operand} (ho : o.op = .call q) (hq : q.callee = .builtin .max) (hargs : q.args = #[x, y, z]) :
    SOp P o ev M (R := R) (max3E (ev x) (ev y) (ev z)) := by
  intro c r hr
  unfold max3E at hr
  cases hx : ev x <;> cases hy : ev y <;> cases hz : ev z <;> simp only [hx, hy, hz, reduceCtorEq] at hr
  refine ⟨_, OpOK.pure rfl fun M2 _ β Z a w hm hxs => ?_, hr⟩
  have q1 := hxs x (by simp [ho, Op.operands, Call.operands, hargs, hq])
  have q2 := hxs y (by simp [ho, Op.operands, Call.operands, hargs, hq])
  have q3 := hxs z (by simp [ho, Op.operands, Call.operands, hargs, hq])
  rw [hx] at q1; rw [hy] at q2; rw [hz] at q3
  exact ⟨_, by simp [execOp, ho, resolve, hq, hargs, invoke, builtin, Builtin.max_, q1.int_inv, q2.int_inv, q3.int_inv, Builtin.max2], .int _ _⟩

end
end Go.Pv
/-! ### Operations that read memory. -/
namespace Go.Pv
section
variable {P : Program} {T : TypeId → TT} {o : Oper} {ev : Operand → V} {M : Mem} {R : Type}
variable {β : Nat → Option Loc} {M2 : Mem} {Z : Nat → Prop} {h : Heap}

theorem cell_of {w : World} {cb : Nat} {c : Array Value} {T : TypeId} {fz : Nat × Nat} (hc : w.heap[cb]? = some (.cells c T fz)) (off : Nat) :
    w.cell? ⟨cb, off, none⟩ = c[off]? := by
  unfold World.cell?; simp only [hc]; rfl

theorem addr_add (cb off j : Nat) : (Addr.mk cb off none).add j = ⟨cb, off + j, none⟩ := by
  unfold Addr.add; split
  · rename_i e; subst e; rfl
  · rfl

theorem run_loadVar' {t : TypeId} {d : TypeDesc} {i : TypeInfo} (hd : P.underlying t = some d) (hi : P.info? t = some i) {w : World} {cb off : Nat} {c : Array Value} {Te : TypeId} {fz : Nat × Nat}
    (hc : w.heap[cb]? = some (.cells c Te fz)) {v : Value} (hs : off + i.size ≤ c.size) (hv : isVal (K.of d).agg v ((c.toList.drop off).take i.size)) :
    (loadVar t ⟨cb, off, none⟩).run P w = .ok v w := by
  unfold loadVar
  unfold isVal at hv
  simp only [Sem.run_bind, run_isAgg hd, Result.andThen_ok]
  cases ha : (K.of d).agg
  · simp only [ha, Bool.false_eq_true, if_false] at hv ⊢
    rw [run_load, cell_of hc, getElem?_of_chunk hv]
  · simp only [ha, if_true] at hv ⊢
    simp only [Sem.run_bind, run_sizeOf' hi, Result.andThen_ok]
    have hl : ((c.toList.drop off).take i.size).length = i.size := by simp; omega
    have := run_loadCells_list (P := P) w ⟨cb, off, none⟩ ((c.toList.drop off).take i.size) (fun j v hj => by
      rw [addr_add, cell_of hc]
      rw [List.getElem?_take] at hj
      split at hj
      · simpa using hj
      · cases hj)
    rw [hl] at this
    rw [this, hv]
    simp

/-- the cells of a box -/
theorem RMem.box (hm : RMem β M2 Z h) {b : Nat} {cells : List V} (hb : M2 b = .box cells) : ∃ cb Te c, β b = some (.at cb 0 1 c.size) ∧ h[cb]? = some (.cells c Te (0, 0)) ∧ RL β M2 Z h cells c.toList := by
  have := hm.blk b
  unfold RB at this
  simp only [hb] at this
  obtain ⟨cb, Te, c, h1, h2, h3, h4⟩ := this
  exact ⟨cb, Te, c, h1, h2, RL.of_arr h3.symm h4⟩

theorem RMem.row (hm : RMem β M2 Z h) {b : Nat} {τ : Ty} {l : List τ.den} {g : Nat} {ro : Bool} (hb : M2 b = .row τ l g ro) : (l = [] ∧ β b = some .virt) ∨
      ∃ cb base Te c fz, β b = some (.at cb base τ.size c.size) ∧ h[cb]? = some (.cells c Te fz) ∧ (ro = false → fz = (0, 0)) ∧ base + l.length * τ.size ≤ c.size ∧
        (∀ i x, l[i]? = some x → RD h Z τ x ((c.toList.drop (base + i * τ.size)).take τ.size)) ∧ (ro = true → Z cb) := by
  have := hm.blk b
  unfold RB at this
  simpa only [hb] using this

theorem RV.ptr_inv {b i j g : Nat} {v : Value} (r : RV β M2 Z h (.ptr b i j g) v) (hg : (M2 b).gen = some g) : PtrOk (M2 b) (β b) i j v := by
  cases r with | ptr _ _ _ _ _ _ _ hh => exact (hh g hg).2 rfl
theorem RV.pa_inv {b j e n : Nat} {x : Int} {o : Nat} {v : Value} (r : RV β M2 Z h (.pa b j e n x o) v) (hg : (M2 b).gen = some 0) : PaOk (M2 b) (β b) j e n x o v := by
  cases r with | pa _ _ _ _ _ _ _ _ _ hh => exact hh 0 hg rfl
theorem RV.sl_inv {b i : Nat} {m : Option Nat} {g : Nat} {v : Value} (r : RV β M2 Z h (.sl b i m g) v) (hg : (M2 b).gen = some g) : SlOk (M2 b) (β b) i m v := by
  cases r with | sl _ _ _ _ _ _ _ hh => exact (hh g hg).2 rfl
theorem RV.sb_inv {b j s n : Nat} {v : Value} (r : RV β M2 Z h (.sb b j s n) v) (hg : (M2 b).gen = some 0) : SbOk (M2 b) (β b) j s n v := by
  cases r with | sb _ _ _ _ _ _ _ hh => exact hh 0 hg rfl
theorem RV.fz_inv {τ : Ty} {l : List τ.den} {v : Value} (r : RV β M2 Z h (.fz τ l) v) : RD h Z (.slice τ) l [v] := by
  cases r with | fz _ _ _ hd => exact hd

theorem mul_le_of_lt {x n e : Nat} (h : x < n) : x * e + e ≤ n * e := by
  have : (x + 1) * e ≤ n * e := Nat.mul_le_mul_right e h
  rw [Nat.add_mul] at this; omega

/-- loading: where the address leads, and what stands there -/
def At (h : Heap) (v : Value) (s : Nat) (vs : List Value) : Prop :=
  ∃ cb off c Te fz, v = .pointer (some ⟨cb, off, none⟩) ∧ h[cb]? = some (.cells c Te fz) ∧ off + s ≤ c.size ∧ vs = (c.toList.drop off).take s

theorem At.box (hm : RMem β M2 Z h) {b i j : Nat} {v : Value} {cells : List V} {s : Nat} (hb : M2 b = .box cells) (r : RV β M2 Z h (.ptr b i j 0) v) (hl : j + s ≤ cells.length) :
    ∃ vs, At h v s vs ∧ RL β M2 Z h ((cells.drop j).take s) vs := by
  obtain ⟨hi, cb, base, sz, top, e1, e2⟩ := r.ptr_inv (by simp [hb, Blk.gen])
  obtain ⟨cb', Te, c, f1, f2, f3⟩ := hm.box hb
  rw [f1] at e1
  simp only [Option.some.injEq, Loc.at.injEq] at e1
  obtain ⟨rfl, rfl, rfl, rfl⟩ := e1
  simp only [hb, Blk.cnt] at hi
  obtain rfl : i = 0 := by omega
  have hlen := f3.1
  simp at hlen
  refine ⟨_, ⟨cb', j, c, Te, _, by rw [e2]; simp, f2, by omega, rfl⟩, (f3.drop j).take s⟩

theorem At.row (hm : RMem β M2 Z h) {b i j g : Nat} {v : Value} {τ : Ty} {l : List τ.den} {ro : Bool} {s : Nat} (hb : M2 b = .row τ l g ro) (r : RV β M2 Z h (.ptr b i j g) v) (hl : j + s ≤ τ.size) :
    ∃ vs, At h v s vs ∧ RL β M2 Z h (((enc τ (l.getD i τ.dflt)).drop j).take s) vs := by
  obtain ⟨hi, cb, base, sz, top, e1, e2⟩ := r.ptr_inv (by simp [hb, Blk.gen])
  simp only [hb, Blk.cnt] at hi
  rcases hm.row hb with ⟨rfl, _⟩ | ⟨cb', base', Te, c, fz, f1, f2, f3, f4, f5, f6⟩
  · simp at hi
  · rw [f1] at e1
    simp only [Option.some.injEq, Loc.at.injEq] at e1
    obtain ⟨rfl, rfl, rfl, rfl⟩ := e1
    have hd := f5 i l[i] (by simp [hi])
    have hg : l.getD i τ.dflt = l[i] := by simp [List.getD, hi]
    have hle := mul_le_of_lt (e := τ.size) hi
    refine ⟨_, ⟨cb', base' + i * τ.size + j, c, Te, fz, e2, f2, by omega, rfl⟩, ?_⟩
    rw [hg]
    have := ((RL.of_RD (β := β) (M2 := M2) hd).drop j).take s
    rw [List.drop_take, List.take_take, Nat.min_eq_left (by omega), List.drop_drop] at this
    exact this

theorem At.pa (hm : RMem β M2 Z h) {b j e n : Nat} {x : Int} {oo : Nat} {v : Value} {cells : List V} {s : Nat} (hb : M2 b = .box cells) (r : RV β M2 Z h (.pa b j e n x oo) v) (ho : oo + s ≤ e) (hl : j + n * e ≤ cells.length) :
    ∃ vs, At h v s vs ∧ RL β M2 Z h (pick cells j e n x.toNat oo s) vs := by
  obtain ⟨h0, h1, h2, _, cb, base, sz, top, e1, e2⟩ := r.pa_inv (by simp [hb, Blk.gen])
  obtain ⟨cb', Te, c, f1, f2, f3⟩ := hm.box hb
  rw [f1] at e1
  simp only [Option.some.injEq, Loc.at.injEq] at e1
  obtain ⟨rfl, rfl, rfl, rfl⟩ := e1
  have hlen := f3.1
  simp at hlen
  have hx : x.toNat < n := by omega
  have hle := mul_le_of_lt (e := e) hx
  refine ⟨_, ⟨cb', j + x.toNat * e + oo, c, Te, _, by rw [e2]; simp, f2, by omega, rfl⟩, ?_⟩
  rw [pick_eq hx ho hl]
  exact (f3.drop _).take s

theorem At.fp {τ : Ty} {l : List τ.den} {i j : Nat} {v : Value} {s : Nat} (r : RV β M2 Z h (.fp τ l i j) v) (hl : j + s ≤ τ.size) :
    ∃ vs, At h v s vs ∧ RL β M2 Z h (((enc τ (l.getD i τ.dflt)).drop j).take s) vs := by
  cases r with
  | fp _ _ _ _ _ cb off c Te fz x hv hz hc hx ho hd =>
    have hg : l.getD i τ.dflt = x := by simp [List.getD, hx]
    refine ⟨_, ⟨cb, off + j, c, Te, fz, hv, hc, by omega, rfl⟩, ?_⟩
    rw [hg]
    have := ((RL.of_RD (β := β) (M2 := M2) hd).drop j).take s
    rw [List.drop_take, List.take_take, Nat.min_eq_left (by omega), List.drop_drop] at this
    exact this

theorem At.load {t : TypeId} {d : TypeDesc} {i : TypeInfo} (hd : P.underlying t = some d) (hi : P.info? t = some i) {w : World} {v : Value} {vs : List Value} (ha : At w.heap v i.size vs)
    (h1 : ((K.of d).agg || Nat.beq i.size 1) = true) : ∃ u, (Instr.loadAt t v).run P w = .ok u w ∧ isVal (K.of d).agg u vs := by
  obtain ⟨cb, off, c, Te, fz, rfl, hc, hs, rfl⟩ := ha
  obtain ⟨u, hu⟩ := isVal_exists (K.of d).agg (cs := (c.toList.drop off).take i.size) (fun ha => by
    rw [ha] at h1
    have h2 : i.size = 1 := by simpa using h1
    simp only [List.length_take, List.length_drop, Array.length_toList]; omega)
  refine ⟨u, ?_, hu⟩
  simp only [Instr.loadAt, Instr.sureAddr, Sem.run_bind, Sem.run_pure, Result.andThen_ok]
  exact run_loadVar' hd hi hc hs hu

theorem loadE_spec (hT : TOK P T) {t : TypeId} {a : V} {c : Eff → Option R} {r : R} (hr : loadE T M t a c = some r) :
    ∃ val fp, c { val := val, fp := fp } = some r ∧ ∀ (M2 : Mem), (∀ b ∈ fp, M2 b = M b) → ∀ (β : Nat → Option Loc) (Z : Nat → Prop) (w : World) (v : Value), RMem β M2 Z w.heap → RV β M2 Z w.heap a v →
      ∃ u, (Instr.loadAt t v).run P w = .ok u w ∧ RV β M2 Z w.heap val u := by
  have hkt : (T t).kind ≠ .bad := fun hk => by simp [loadE, hk] at hr
  obtain ⟨i, d, a1, a2, a3, a4, _⟩ := hT.info hkt
  have hr' : (bif (K.of d).agg || Nat.beq i.size 1 then
    match a with
    | .ptr b i' j g => match M b with
      | .box cells => bif Nat.beq i' 0 && Nat.beq g 0 && Nat.ble (j + i.size) cells.length then c { val := mkv (K.of d).agg ((cells.drop j).take i.size), fp := [b] } else none
      | .row τ l g' _ => bif Nat.beq g g' && Nat.ble (j + i.size) τ.size then c { val := mkv (K.of d).agg (((enc τ (l.getD i' τ.dflt)).drop j).take i.size), fp := [b] } else none
      | _ => none
    | .pa b j e n x o => match M b with
      | .box cells => bif Nat.ble (o + i.size) e && Nat.ble (j + n * e) cells.length then c { val := mkv (K.of d).agg (pick cells j e n x.toNat o i.size), fp := [b] } else none
      | _ => none
    | .fp τ l i' j => bif Nat.ble (j + i.size) τ.size then c { val := mkv (K.of d).agg (((enc τ (l.getD i' τ.dflt)).drop j).take i.size) } else none
    | _ => none
    else none) = some r := by
    unfold loadE at hr
    rw [← a3, ← a4]
    revert hr
    cases hk : (T t).kind <;> first | exact absurd hk hkt | exact id
  clear hr
  cases hone : ((K.of d).agg || Nat.beq i.size 1) with
  | false => rw [hone] at hr'; cases hr'
  | true =>
    rw [hone] at hr'
    simp only [cond_true] at hr'
    cases a <;> simp only [reduceCtorEq] at hr'
    case ptr b i' j g =>
      cases hb : M b <;> simp only [hb, reduceCtorEq] at hr'
      case box cells =>
        cases hq : (Nat.beq i' 0 && Nat.beq g 0 && Nat.ble (j + i.size) cells.length) with
        | false => rw [hq] at hr'; cases hr'
        | true =>
          rw [hq] at hr'
          simp only [Bool.and_eq_true] at hq
          obtain ⟨⟨q1, q2⟩, q3⟩ := hq
          have q2' := Nat.eq_of_beq_eq_true q2
          subst q2'
          refine ⟨_, _, hr', fun M2 hM β Z w v hm hv => ?_⟩
          have hb2 : M2 b = .box cells := by rw [hM b (by simp)]; exact hb
          obtain ⟨vs, ha, hl⟩ := At.box hm hb2 hv (Nat.le_of_ble_eq_true q3)
          obtain ⟨u, hu, hv⟩ := ha.load a2 a1 hone
          exact ⟨u, hu, mkv_ok hl hv⟩
      case row τ l g' ro =>
        cases hq : (Nat.beq g g' && Nat.ble (j + i.size) τ.size) with
        | false => rw [hq] at hr'; cases hr'
        | true =>
          rw [hq] at hr'
          simp only [Bool.and_eq_true] at hq
          obtain ⟨q2, q3⟩ := hq
          have q2' := Nat.eq_of_beq_eq_true q2
          subst q2'
          refine ⟨_, _, hr', fun M2 hM β Z w v hm hv => ?_⟩
          have hb2 : M2 b = .row τ l g ro := by rw [hM b (by simp)]; exact hb
          obtain ⟨vs, ha, hl⟩ := At.row hm hb2 hv (Nat.le_of_ble_eq_true q3)
          obtain ⟨u, hu, hv⟩ := ha.load a2 a1 hone
          exact ⟨u, hu, mkv_ok hl hv⟩
    case pa b j e n x oo =>
      cases hb : M b <;> simp only [hb, reduceCtorEq] at hr'
      rename_i cells
      cases hq : (Nat.ble (oo + i.size) e && Nat.ble (j + n * e) cells.length) with
      | false => rw [hq] at hr'; cases hr'
      | true =>
        rw [hq] at hr'
        simp only [Bool.and_eq_true] at hq
        obtain ⟨q2, q3⟩ := hq
        refine ⟨_, _, hr', fun M2 hM β Z w v hm hv => ?_⟩
        have hb2 : M2 b = .box cells := by rw [hM b (by simp)]; exact hb
        obtain ⟨vs, ha, hl⟩ := At.pa hm hb2 hv (Nat.le_of_ble_eq_true q2) (Nat.le_of_ble_eq_true q3)
        obtain ⟨u, hu, hv⟩ := ha.load a2 a1 hone
        exact ⟨u, hu, mkv_ok hl hv⟩
    case fp τ l i' j =>
      cases hq : (Nat.ble (j + i.size) τ.size) with
      | false => rw [hq] at hr'; cases hr'
      | true =>
        rw [hq] at hr'
        refine ⟨_, _, hr', fun M2 hM β Z w v hm hv => ?_⟩
        obtain ⟨vs, ha, hl⟩ := At.fp hv (Nat.le_of_ble_eq_true hq)
        obtain ⟨u, hu, hv⟩ := ha.load a2 a1 hone
        exact ⟨u, hu, mkv_ok hl hv⟩

theorem loadE_ok (hT : TOK P T) {t : TypeId} {x : Operand} (ho : o.op = .load t x) : SOp P o ev M (R := R) (loadE T M t (ev x)) := by
  intro c r hr
  obtain ⟨val, fp, h1, h2⟩ := loadE_spec hT hr
  refine ⟨_, OpOK.pure rfl fun M2 hM β Z a w hm hx => ?_, h1⟩
  obtain ⟨u, h3, h4⟩ := h2 M2 hM β Z w _ hm (hx x (by simp [ho, Op.operands]))
  exact ⟨u, by simp [execOp, ho, h3], h4⟩

end
end Go.Pv
/-! ### Addresses of fields and elements. -/
namespace Go.Pv
section
variable {P : Program} {T : TypeId → TT} {o : Oper} {ev : Operand → V} {M : Mem} {R : Type}
variable {β : Nat → Option Loc} {M2 : Mem} {Z : Nat → Prop} {h : Heap}

theorem validP_agree {a : V} (hM : ∀ b ∈ fpOf a, M2 b = M b) (hv : validP M a = true) : validP M2 a = true := by
  cases a <;> simp only [validP, fpOf, List.mem_singleton, forall_eq] at * <;> first | exact hv | (rw [hM]; exact hv)

/-- a valid address is an address; further on it stays one -/
theorem plus_ok {a : V} (hv : validP M2 a = true) {v : Value} (r : RV β M2 Z h a v) : ∃ cb off, v = .pointer (some ⟨cb, off, none⟩) ∧
    ∀ n, RV β M2 Z h (a.plus n) (.pointer (some ⟨cb, off + n, none⟩)) := by
  cases a <;> simp only [validP, Bool.false_eq_true] at hv
  case ptr b i j g =>
    have hg : (M2 b).gen = some g := by
      cases hb : M2 b <;> simp only [hb, Bool.false_eq_true] at hv <;> simp only [Blk.gen]
      · rw [Nat.eq_of_beq_eq_true hv]
      · rw [Nat.eq_of_beq_eq_true hv]
    obtain ⟨hi, cb, base, sz, top, e1, e2⟩ := r.ptr_inv hg
    refine ⟨cb, _, e2, fun n => ?_⟩
    refine .ptr b i (j + n) g _ rfl (fun hn => by rw [gen_none hn] at hg; cases hg) fun g0 hg0 => ?_
    rw [hg] at hg0; cases hg0
    exact ⟨Nat.le_refl _, fun _ => ⟨hi, cb, base, sz, top, e1, by rw [Nat.add_assoc]⟩⟩
  case pa b j e m x oo =>
    have hg : (M2 b).gen = some 0 := by
      cases hb : M2 b <;> simp only [hb, Bool.false_eq_true] at hv; rfl
    obtain ⟨h0, h1, h2, h3, cb, base, sz, top, e1, e2⟩ := r.pa_inv hg
    refine ⟨cb, _, e2, fun n => ?_⟩
    refine .pa b j e m x (oo + n) _ rfl (fun hn => by rw [gen_none hn] at hg; cases hg) fun g0 hg0 _ => ?_
    exact ⟨h0, h1, h2, h3, cb, base, sz, top, e1, by simp only [Nat.add_assoc]⟩
  case fp τ l i j =>
    cases r with
    | fp _ _ _ _ _ cb off c Te fz x hv hz hc hx ho hd =>
      exact ⟨cb, off + j, hv, fun n => .fp τ l i (j + n) _ cb off c Te fz x (by rw [Nat.add_assoc]) hz hc hx ho hd⟩

theorem fieldAddrE_ok (hT : TOK P T) {s : TypeId} {x : Operand} {f : Nat} (ho : o.op = .fieldAddr s x f) : SOp P o ev M (R := R) (fieldAddrE T M s (ev x) f) := by
  intro c r hr
  unfold fieldAddrE at hr
  cases hs : isStruct T s f with
  | none => simp [hs] at hr
  | some p =>
    obtain ⟨off, sz⟩ := p
    simp only [hs] at hr
    cases hv : validP M (ev x) with
    | false => rw [hv] at hr; cases hr
    | true =>
      rw [hv] at hr
      simp only [cond_true] at hr
      unfold isStruct at hs
      have hks : (T s).kind ≠ .bad := fun hk => by simp [hk] at hs
      obtain ⟨i1, d1, a1, a2, a3, _⟩ := hT.info hks
      rw [a3] at hs
      cases d1 <;> simp only [K.of, reduceCtorEq] at hs
      rename_i fs
      simp only [List.getElem?_map, Array.getElem?_toList] at hs
      cases hf : fs[f]? with
      | none => simp [hf] at hs
      | some q =>
        simp only [hf, Option.map_some] at hs
        have hkq : (T q.type).kind ≠ .bad := fun hk => by simp [hk] at hs
        obtain ⟨i2, d2, b1, b2, b3, b4, _⟩ := hT.info hkq
        have hs' : (bif Nat.beq i2.size 0 then none else some (q.offset, i2.size)) = some (off, sz) := by
          rw [← b4]; revert hs; cases hk : (T q.type).kind <;> first | exact absurd hk hkq | exact id
        cases hz : Nat.beq i2.size 0 with
        | true => rw [hz] at hs'; cases hs'
        | false =>
          rw [hz] at hs'
          simp only [cond_false, Option.some.injEq, Prod.mk.injEq] at hs'
          obtain ⟨rfl, rfl⟩ := hs'
          have hz' : i2.size ≠ 0 := Nat.ne_of_beq_eq_false hz
          refine ⟨_, OpOK.pure rfl fun M2 hM β Z a w hm hx => ?_, hr⟩
          obtain ⟨cb, off, e1, e2⟩ := plus_ok (validP_agree hM hv) (hx x (by simp [ho, Op.operands]))
          refine ⟨_, ?_, e2 q.offset⟩
          simp [execOp, ho, Instr.fieldAt, run_underlying a2, hf, e1, Instr.sureAddr, fieldPlace, run_sizeOf' b1, hz', addr_add]

theorem elemE_ok {a : V} {n s : Nat} {x : Int} {u : V} (he : elemE M2 a n s x = some u) (hv : validP M2 a = true) (h0 : 0 ≤ x) (h1 : x < n) {v : Value} (r : RV β M2 Z h a v) :
    ∃ cb off, v = .pointer (some ⟨cb, off, none⟩) ∧ RV β M2 Z h u (.pointer (some ⟨cb, off + x.toNat * s, none⟩)) := by
  obtain ⟨cb, off, e1, e2⟩ := plus_ok hv r
  refine ⟨cb, off, e1, ?_⟩
  have e3 := e2 (x.toNat * s)
  cases a <;> simp only [elemE, reduceCtorEq, Option.some.injEq] at he
  case ptr b i j g =>
    cases hb : M2 b <;> simp only [hb, Option.some.injEq] at he
    case box cells =>
      cases hq : (Nat.beq i 0 && Nat.ble (j + n * s) cells.length) with
      | false => rw [hq] at he; cases he
      | true =>
        rw [hq] at he
        simp only [cond_true, Option.some.injEq] at he
        subst he
        simp only [Bool.and_eq_true] at hq
        have hi := Nat.eq_of_beq_eq_true hq.1
        subst hi
        have hg : (M2 b).gen = some 0 := by simp [hb, Blk.gen]
        have hgg : g = 0 := by simp only [validP, hb] at hv; exact Nat.eq_of_beq_eq_true hv
        subst hgg
        obtain ⟨hi, cb', base, sz, top, f1, f2⟩ := r.ptr_inv hg
        refine .pa b j s n x 0 _ rfl (by simp [hb]) fun g0 _ _ => ⟨h0, h1, ?_, by simp [hb, Blk.isBox], cb', base, sz, top, f1, ?_⟩
        · simp only [hb, Blk.len]; exact Nat.le_of_ble_eq_true hq.2
        · rw [f2] at e1
          simp only [Value.pointer.injEq, Option.some.injEq, Addr.mk.injEq, and_true] at e1
          obtain ⟨rfl, rfl⟩ := e1
          simp [Nat.add_assoc]
    all_goals (subst he; exact e3)
  case pa => subst he; exact e3
  case fp => subst he; exact e3

theorem elemE_agree {a : V} {n s : Nat} {x : Int} (hM : ∀ b ∈ fpOf a, M2 b = M b) : elemE M2 a n s x = elemE M a n s x := by
  cases a <;> simp only [elemE, fpOf, List.mem_singleton, forall_eq] at *
  rw [hM]

theorem indexAddrE_ok (hT : TOK P T) {t : TypeId} {x y : Operand} (ho : o.op = .indexAddr t x y) : SOp P o ev M (R := R) (indexAddrE T M t (ev x) (ev y)) := by
  intro c r hr
  unfold indexAddrE at hr
  have hkt : (T t).kind ≠ .bad := fun hk => by simp [hk] at hr
  obtain ⟨i1, d1, a1, a2, a3, _⟩ := hT.info hkt
  rw [a3] at hr
  cases d1 <;> cases hy : ev y <;> simp only [K.of, hy, reduceCtorEq] at hr
  case array.int n el k xi =>
    have hke : (T el).kind ≠ .bad := fun hk => by simp [hk] at hr
    obtain ⟨i2, d2, b1, b2, b3, b4, _⟩ := hT.info hke
    have hr' : (bif validP M (ev x) then (match elemE M (ev x) n i2.size xi with
      | some v => bif inRange xi n then c { val := v, fp := fpOf (ev x) } else none
      | none => none) else none) = some r := by
      rw [← b4]; revert hr; cases hk : (T el).kind <;> first | exact absurd hk hke | exact id
    cases hv : validP M (ev x) with
    | false => rw [hv] at hr'; cases hr'
    | true =>
      rw [hv] at hr'
      simp only [cond_true] at hr'
      cases hel : elemE M (ev x) n i2.size xi with
      | none => simp [hel] at hr'
      | some u =>
        simp only [hel] at hr'
        cases hin : inRange xi n with
        | false => rw [hin] at hr'; cases hr'
        | true =>
          rw [hin] at hr'
          simp only [cond_true] at hr'
          obtain ⟨h1, h2⟩ := inRange_iff.1 hin
          refine ⟨_, OpOK.pure rfl fun M2 hM β Z a w hm hxs => ?_, hr'⟩
          have q2 := hxs y (by simp [ho, Op.operands])
          rw [hy] at q2
          obtain ⟨cb, off, e1, e2⟩ := elemE_ok (by rw [elemE_agree hM]; exact hel) (validP_agree hM hv) h1 h2 (hxs x (by simp [ho, Op.operands]))
          refine ⟨_, ?_, e2⟩
          simp [execOp, ho, Instr.indexAt, asIntOf, q2.int_inv, run_underlying a2, e1, Instr.sureAddr, h1, h2, run_sizeOf' b1, addr_add]
  case slice.int el k xi =>
    have hke : (T el).kind ≠ .bad := fun hk => by simp [hk] at hr
    obtain ⟨i2, d2, b1, b2, b3, b4, _⟩ := hT.info hke
    have hr' : (match ev x with
      | .sl b i m g => match M b with
        | .row τ l g' _ => bif Nat.beq g g' && Nat.beq i2.size τ.size then (bif inRange xi (lenOf l i m) then c { val := .ptr b (xi.toNat + i) 0 g, fp := [b] } else none) else none
        | _ => none
      | .fz τ l => bif Nat.beq i2.size τ.size then (bif inRange xi l.length then c { val := .fp τ l xi.toNat 0 } else none) else none
      | .sb b j s' n => match M b with
        | .box _ => bif Nat.beq i2.size s' then (bif inRange xi n then c { val := .pa b j i2.size n xi 0, fp := [b] } else none) else none
        | _ => none
      | _ => none) = some r := by
      rw [← b4]; revert hr; cases hk : (T el).kind <;> first | exact absurd hk hke | exact id
    clear hr
    -- what is left to run
    have fin : ∀ {a : Act} {w : World} {cb off len cap : Nat}, a.eval x = .slice (some ⟨cb, off, none⟩) len cap → a.eval y = .int k xi → 0 ≤ xi → xi < len →
        (execOp a.eval o).run P w = .ok (.value (.pointer (some ⟨cb, off + xi.toNat * i2.size, none⟩))) w := by
      intro a w cb off len cap e1 e2 h1 h2
      simp [execOp, ho, Instr.indexAt, asIntOf, e1, e2, run_underlying a2, h1, h2, run_sizeOf' b1, addr_add]
    cases hx : ev x <;> simp only [hx, reduceCtorEq] at hr'
    case sl b i m g =>
      cases hb : M b <;> simp only [hb, reduceCtorEq] at hr'
      rename_i τ l g' ro
      cases hq : (Nat.beq g g' && Nat.beq i2.size τ.size) with
      | false => rw [hq] at hr'; cases hr'
      | true =>
        rw [hq] at hr'
        simp only [cond_true] at hr'
        simp only [Bool.and_eq_true] at hq
        have q1 := Nat.eq_of_beq_eq_true hq.1
        have q2 := Nat.eq_of_beq_eq_true hq.2
        subst q1
        cases hin : inRange xi (lenOf l i m) with
        | false => rw [hin] at hr'; cases hr'
        | true =>
          rw [hin] at hr'
          simp only [cond_true] at hr'
          obtain ⟨h1, h2⟩ := inRange_iff.1 hin
          refine ⟨_, OpOK.pure rfl fun M2 hM β Z a w hm hxs => ?_, hr'⟩
          have p1 := hxs x (by simp [ho, Op.operands])
          have p2 := hxs y (by simp [ho, Op.operands])
          rw [hx] at p1; rw [hy] at p2
          have hb2 : M2 b = .row τ l g ro := by rw [hM b (by simp)]; exact hb
          have hgen : (M2 b).gen = some g := by simp [hb2, Blk.gen]
          have hs := p1.sl_inv hgen
          rcases hs with ⟨e0, rfl, e00, e1⟩ | ⟨cb, base, sz, top, off, len, cap, f1, f2, f3, f4, f5, f6, f7⟩
          · rcases hm.row hb2 with ⟨rfl, _⟩ | ⟨cb', base', Te, c', fz', g1, _⟩
            · rcases e00 with rfl | rfl <;> simp [lenOf] at h2 <;> omega
            · rw [e0] at g1; cases g1
          · rcases hm.row hb2 with ⟨_, g1⟩ | ⟨cb', base', Te, c', fz', g1, g2, g3, g4, g5, g6⟩
            · rw [f1] at g1; cases g1
            · rw [f1] at g1
              simp only [Option.some.injEq, Loc.at.injEq] at g1
              obtain ⟨rfl, rfl, rfl, rfl⟩ := g1
              have hlen : lenOf l i m = len ∧ i + len ≤ l.length := by
                cases m with
                | none => simp only [hb2, Blk.cnt] at f7; simp only [lenOf]; omega
                | some m => simp only [hb2, Blk.cnt] at f7; simp only [lenOf]; omega
              have hx1 : xi < len := by rw [← hlen.1]; exact h2
              refine ⟨_, fin f2 p2.int_inv h1 hx1, ?_⟩
              refine .ptr b (xi.toNat + i) 0 g _ rfl (by simp [hb2]) fun g0 hg0 => ?_
              rw [hgen] at hg0; cases hg0
              refine ⟨Nat.le_refl _, fun _ => ⟨by simp only [hb2, Blk.cnt]; omega, cb, base, _, _, f1, ?_⟩⟩
              rw [f3 (by omega), q2, Nat.add_mul]
              simp only [Nat.add_zero, Value.pointer.injEq, Option.some.injEq, Addr.mk.injEq, and_true, true_and]
              omega
    case sb b j s' n =>
      cases hb : M b <;> simp only [hb, reduceCtorEq] at hr'
      rename_i cells
      cases hq : Nat.beq i2.size s' with
      | false => rw [hq] at hr'; cases hr'
      | true =>
        rw [hq] at hr'
        simp only [cond_true] at hr'
        have q1 := Nat.eq_of_beq_eq_true hq
        subst q1
        cases hin : inRange xi n with
        | false => rw [hin] at hr'; cases hr'
        | true =>
          rw [hin] at hr'
          simp only [cond_true] at hr'
          obtain ⟨h1, h2⟩ := inRange_iff.1 hin
          refine ⟨_, OpOK.pure rfl fun M2 hM β Z a w hm hxs => ?_, hr'⟩
          have p1 := hxs x (by simp [ho, Op.operands])
          have p2 := hxs y (by simp [ho, Op.operands])
          rw [hx] at p1; rw [hy] at p2
          have hb2 : M2 b = .box cells := by rw [hM b (by simp)]; exact hb
          obtain ⟨s1, s2, cb, base, sz, top, cap, s3, s4, s5, s6⟩ := p1.sb_inv (by simp [hb2, Blk.gen])
          refine ⟨_, fin s4 p2.int_inv h1 h2, ?_⟩
          exact .pa b j _ n xi 0 _ rfl (by simp [hb2]) fun g0 _ _ => ⟨h1, h2, s1, s2, cb, base, sz, top, s3, by simp [Nat.add_assoc]⟩
    case fz τ l =>
      cases hq : Nat.beq i2.size τ.size with
      | false => rw [hq] at hr'; cases hr'
      | true =>
        rw [hq] at hr'
        simp only [cond_true] at hr'
        have q2 := Nat.eq_of_beq_eq_true hq
        cases hin : inRange xi l.length with
        | false => rw [hin] at hr'; cases hr'
        | true =>
          rw [hin] at hr'
          simp only [cond_true] at hr'
          obtain ⟨h1, h2⟩ := inRange_iff.1 hin
          refine ⟨_, OpOK.pure rfl fun M2 hM β Z a w hm hxs => ?_, hr'⟩
          have p1 := hxs x (by simp [ho, Op.operands])
          have p2 := hxs y (by simp [ho, Op.operands])
          rw [hx] at p1; rw [hy] at p2
          have hd := p1.fz_inv
          simp only [RD] at hd
          have hlt : xi.toNat < l.length := by omega
          rcases hd with ⟨_, rfl⟩ | ⟨cb, off, cap, c', Te, fz', e1, e2, e3, e4, e5, e6⟩
          · simp at hlt
          · simp only [List.cons.injEq, and_true] at e1
            refine ⟨_, fin e1 p2.int_inv h1 h2, ?_⟩
            have hle := mul_le_of_lt (e := τ.size) hlt
            rw [q2]
            exact .fp τ l xi.toNat 0 _ cb (off + xi.toNat * τ.size) c' Te fz' l[xi.toNat] (by simp) e3 e4 (by simp [hlt]) (by omega) (e6 _ _ (by simp [hlt]))

end
end Go.Pv
/-! ### Slice expressions; len. -/
namespace Go.Pv
section
variable {P : Program} {T : TypeId → TT} {o : Oper} {ev : Operand → V} {M : Mem} {R : Type}
variable {β : Nat → Option Loc} {M2 : Mem} {Z : Nat → Prop} {h : Heap}

/-- optional operands -/
def ORV (β : Nat → Option Loc) (M : Mem) (Z : Nat → Prop) (h : Heap) (x : Option V) (v : Option Value) : Prop :=
  match x, v with
  | none, none => True
  | some x, some v => RV β M Z h x v
  | _, _ => False

theorem ORV.map {x : Option Operand} {a : Act} (hx : ∀ y ∈ x.toList, RV β M2 Z h (ev y) (a.eval y)) : ORV β M2 Z h (x.map ev) (x.map a.eval) := by
  cases x with
  | none => trivial
  | some y => exact hx y (by simp)

theorem ORV.int_inv {k : IntKind} {n : Int} {v : Option Value} (r : ORV β M2 Z h (some (.int k n)) v) : v = some (.int k n) := by
  cases v with
  | none => exact r.elim
  | some v => rw [RV.int_inv r]

theorem ORV.none_inv {v : Option Value} (r : ORV β M2 Z h none v) : v = none := by
  cases v with
  | none => rfl
  | some v => exact r.elim

theorem run_sliceBound {k : IntKind} {x : Int} {y : Nat} {code : BoundsCode} {w : World} (h0 : 0 ≤ x) (h1 : x ≤ y) : (Instr.sliceBound (.int k x) y code).run P w = .ok x.toNat w := by
  simp [Instr.sliceBound, asIntOf, h0, h1]

theorem cutE_spec {n : Nat} {lo hi mx : Option V} {c : Nat → Option Nat → Option R} {r : R} (hr : cutE n lo hi mx c = some r) :
    ∃ l hh, c l hh = some r ∧ (∀ x, hh = some x → x ≤ n) ∧ l ≤ hh.getD n ∧ (mx.isSome = true → hh.isSome = true) ∧
      ∀ (β : Nat → Option Loc) (M2 : Mem) (Z : Nat → Prop) (h : Heap) (lo' hi' mx' : Option Value), ORV β M2 Z h lo lo' → ORV β M2 Z h hi hi' → ORV β M2 Z h mx mx' →
        ∀ (isSlice : Bool) (cap : Nat) (w : World), n ≤ cap → ∃ m, (Instr.sliceBounds isSlice n cap lo' hi' mx').run P w = .ok (l, hh.getD n, m) w ∧ hh.getD n ≤ m ∧ m ≤ cap ∧ (mx = none → m = cap) := by
  unfold cutE at hr
  cases mx with
  | none =>
    cases hi with
    | none =>
      cases lo with
      | none =>
        refine ⟨0, none, hr, by simp, by simp, by simp, fun β M2 Z h lo' hi' mx' q1 q2 q3 isSlice cap w hc => ⟨cap, ?_, by simpa using hc, Nat.le_refl _, fun _ => rfl⟩⟩
        rw [q1.none_inv, q2.none_inv, q3.none_inv]
        simp [Instr.sliceBounds]
      | some lo =>
        cases lo <;> simp only [reduceCtorEq] at hr
        rename_i k l
        cases hb : (decide (0 ≤ l) && decide (l ≤ n)) with
        | false => rw [hb] at hr; cases hr
        | true =>
          rw [hb] at hr
          simp only [Bool.and_eq_true, decide_eq_true_eq] at hb
          obtain ⟨b1, b2⟩ := hb
          refine ⟨l.toNat, none, hr, by simp, by simp; omega, by simp, fun β M2 Z h lo' hi' mx' q1 q2 q3 isSlice cap w hc => ⟨cap, ?_, by simpa using hc, Nat.le_refl _, fun _ => rfl⟩⟩
          rw [q1.int_inv, q2.none_inv, q3.none_inv]
          simp [Instr.sliceBounds, run_sliceBound b1 b2]
    | some hi =>
      cases hi <;> simp only [reduceCtorEq] at hr
      rename_i k x
      cases lo with
      | none =>
        simp only at hr
        cases hb : (decide (0 ≤ x) && decide (x ≤ n)) with
        | false => rw [hb] at hr; cases hr
        | true =>
          rw [hb] at hr
          simp only [Bool.and_eq_true, decide_eq_true_eq] at hb
          obtain ⟨b1, b2⟩ := hb
          refine ⟨0, some x.toNat, hr, by simp; omega, by simp, by simp, fun β M2 Z h lo' hi' mx' q1 q2 q3 isSlice cap w hc => ⟨cap, ?_, by simp; omega, Nat.le_refl _, fun _ => rfl⟩⟩
          rw [q1.none_inv, q2.int_inv, q3.none_inv]
          simp [Instr.sliceBounds, run_sliceBound b1 (show x ≤ cap by omega)]
      | some lo =>
        cases lo <;> simp only [reduceCtorEq] at hr
        rename_i k' l
        cases hb : (decide (0 ≤ l) && decide (l ≤ x) && decide (x ≤ n)) with
        | false => rw [hb] at hr; cases hr
        | true =>
          rw [hb] at hr
          simp only [Bool.and_eq_true, decide_eq_true_eq] at hb
          obtain ⟨⟨b1, b2⟩, b3⟩ := hb
          refine ⟨l.toNat, some x.toNat, hr, by simp; omega, by simp; omega, by simp, fun β M2 Z h lo' hi' mx' q1 q2 q3 isSlice cap w hc => ⟨cap, ?_, by simp; omega, Nat.le_refl _, fun _ => rfl⟩⟩
          rw [q1.int_inv, q2.int_inv, q3.none_inv]
          simp [Instr.sliceBounds, run_sliceBound (show 0 ≤ x by omega) (show x ≤ cap by omega), run_sliceBound b1 (show l ≤ (x.toNat : Int) by omega)]
  | some mx =>
    cases mx <;> simp only [reduceCtorEq] at hr
    rename_i km m
    cases hi with
    | none => simp at hr
    | some hi =>
      cases hi <;> simp only [reduceCtorEq] at hr
      rename_i k x
      cases lo with
      | none =>
        simp only at hr
        cases hb : (decide (0 ≤ x) && decide (x ≤ m) && decide (m ≤ n)) with
        | false => rw [hb] at hr; cases hr
        | true =>
          rw [hb] at hr
          simp only [Bool.and_eq_true, decide_eq_true_eq] at hb
          obtain ⟨⟨b1, b2⟩, b3⟩ := hb
          refine ⟨0, some x.toNat, hr, by simp; omega, by simp, by simp, fun β M2 Z h lo' hi' mx' q1 q2 q3 isSlice cap w hc => ⟨m.toNat, ?_, by simp; omega, by omega, by simp⟩⟩
          rw [q1.none_inv, q2.int_inv, q3.int_inv]
          simp [Instr.sliceBounds, run_sliceBound (show 0 ≤ m by omega) (show m ≤ cap by omega), run_sliceBound b1 (show x ≤ (m.toNat : Int) by omega)]
      | some lo =>
        cases lo <;> simp only [reduceCtorEq] at hr
        rename_i k' l
        cases hb : (decide (0 ≤ l) && decide (l ≤ x) && decide (x ≤ m) && decide (m ≤ n)) with
        | false => rw [hb] at hr; cases hr
        | true =>
          rw [hb] at hr
          simp only [Bool.and_eq_true, decide_eq_true_eq] at hb
          obtain ⟨⟨⟨b1, b2⟩, b3⟩, b4⟩ := hb
          refine ⟨l.toNat, some x.toNat, hr, by simp; omega, by simp; omega, by simp, fun β M2 Z h lo' hi' mx' q1 q2 q3 isSlice cap w hc => ⟨m.toNat, ?_, by simp; omega, by omega, by simp⟩⟩
          rw [q1.int_inv, q2.int_inv, q3.int_inv]
          simp [Instr.sliceBounds, run_sliceBound (show 0 ≤ m by omega) (show m ≤ cap by omega), run_sliceBound (show 0 ≤ x by omega) (show x ≤ (m.toNat : Int) by omega), run_sliceBound b1 (show l ≤ (x.toNat : Int) by omega)]

theorem sliceAt_slice {t el : TypeId} (hd : P.underlying t = some (.slice el)) (x : Value) (lo hi mx : Option Value) (w : World) :
    (Instr.sliceAt t x lo hi mx).run P w = (Instr.slice t x lo hi mx).run P w := by
  simp [Instr.sliceAt, run_underlying hd]

theorem sliceAt_string {t : TypeId} (hd : P.underlying t = some .string) (x : Value) (lo hi mx : Option Value) (w : World) :
    (Instr.sliceAt t x lo hi mx).run P w = (Instr.slice t x lo hi mx).run P w := by
  simp [Instr.sliceAt, run_underlying hd]

theorem run_slice {t el : TypeId} {i : TypeInfo} (hd : P.underlying t = some (.slice el)) (hi : P.info? el = some i) {a : Option Addr} {len cap l h' m : Nat} {lo hi' mx : Option Value} {w : World}
    (hb : (Instr.sliceBounds true len cap lo hi' mx).run P w = .ok (l, h', m) w) :
    (Instr.sliceAt t (.slice a len cap) lo hi' mx).run P w = .ok (.slice (if m = l then a else a.map (·.add (l * i.size))) (h' - l) (m - l)) w := by
  rw [sliceAt_slice hd]
  simp only [Instr.slice, Sem.run_bind, run_underlying hd, Result.andThen_ok, hb, run_sizeOf' hi, Sem.run_pure]

theorem mem_ops4 {t : TypeId} {x : Operand} {lo hi mx : Option Operand} (ho : o.op = .slice t x lo hi mx) {y : Operand} :
    y ∈ o.op.operands.toList ↔ y = x ∨ y ∈ lo.toList ∨ y ∈ hi.toList ∨ y ∈ mx.toList := by
  rw [ho]; simp [Op.operands]

/-- a part of a live slice -/
theorem SlOk.cut {k : Blk} {loc : Option Loc} {i : Nat} {m : Option Nat} {a : Option Addr} {len cap l h' mm sz0 : Nat} (s : SlOk k loc i m (.slice a len cap))
    (hsz : ∀ cb base sz top, loc = some (.at cb base sz top) → sz = sz0) (hl : l ≤ h') (hh : h' ≤ len) (hm : h' ≤ mm) (hc : mm ≤ cap) (m' : Option Nat)
    (hm' : (m' = none ∧ m = none ∧ h' = len) ∨ m' = some (h' - l)) :
    SlOk k loc (l + i) m' (.slice (if mm = l then a else a.map (·.add (l * sz0))) (h' - l) (mm - l)) := by
  rcases s with ⟨e0, rfl, e1, e2⟩ | ⟨cb, base, sz, top, off, len', cap', f1, f2, f3, f4, f5, f6, f7⟩
  · simp only [Value.slice.injEq] at e2
    obtain ⟨rfl, rfl, rfl⟩ := e2
    have : l = 0 := by omega
    have : h' = 0 := by omega
    have : mm = 0 := by omega
    subst_vars
    refine .inl ⟨rfl, rfl, ?_, by simp⟩
    rcases hm' with ⟨h, _⟩ | h
    · exact .inl h
    · exact .inr (by simpa using h)
  · simp only [Value.slice.injEq] at f2
    obtain ⟨rfl, rfl, rfl⟩ := f2
    have e := hsz _ _ _ _ f1
    subst e
    have hmul : (i + mm) * sz ≤ (i + cap) * sz := Nat.mul_le_mul_right _ (by omega)
    have hmul2 : (i + l) * sz ≤ (i + cap) * sz := Nat.mul_le_mul_right _ (by omega)
    refine .inr ⟨cb, base, sz, top, if mm = l then off else off + l * sz, h' - l, mm - l, f1, ?_, ?_, ?_, by omega, ?_, ?_⟩
    · split
      · rfl
      · simp [addr_add]
    · intro hpos
      rw [if_neg (by omega), f3 (by omega), Nat.add_mul]; omega
    · split
      · exact f4
      · rw [f3 (by omega)]; rw [Nat.add_mul] at hmul2; omega
    · have : l + i + (mm - l) = i + mm := by omega
      rw [this]; omega
    · rcases hm' with ⟨rfl, rfl, h2⟩ | rfl
      · simp only at f7 ⊢; omega
      · cases m with
        | none => simp only at f7 ⊢; refine ⟨?_, by omega⟩; first | rfl | trivial
        | some m => simp only at f7 ⊢; refine ⟨?_, by omega⟩; first | rfl | trivial

/-- a slice of a live row: its length -/
theorem SlOk.len {τ : Ty} {l : List τ.den} {g : Nat} {ro : Bool} {b i : Nat} {m : Option Nat} {v : Value} (hm : RMem β M2 Z h) (hb : M2 b = .row τ l g ro) (s : SlOk (M2 b) (β b) i m v) :
    ∃ a cap, v = .slice a (lenOf l i m) cap ∧ lenOf l i m ≤ cap := by
  rcases s with ⟨e0, rfl, e1, rfl⟩ | ⟨cb, base, sz, top, off, len, cap, f1, rfl, f3, f4, f5, f6, f7⟩
  · rcases hm.row hb with ⟨rfl, _⟩ | ⟨_, _, _, _, _, g1, _⟩
    · rcases e1 with rfl | rfl <;> exact ⟨none, 0, by simp [lenOf], by simp [lenOf]⟩
    · rw [e0] at g1; cases g1
  · have : lenOf l i m = len := by
      cases m with
      | none => simp only [hb, Blk.cnt] at f7; simp only [lenOf]; omega
      | some m => simp only at f7; simp only [lenOf]; omega
    rw [this]
    exact ⟨_, _, rfl, f5⟩

theorem SlOk.size {τ : Ty} {l : List τ.den} {g : Nat} {ro : Bool} {b : Nat} (hm : RMem β M2 Z h) (hb : M2 b = .row τ l g ro) :
    ∀ cb base sz top, β b = some (.at cb base sz top) → sz = τ.size := by
  intro cb base sz top e
  rcases hm.row hb with ⟨_, g1⟩ | ⟨_, _, _, _, _, g1, _⟩
  · rw [e] at g1; cases g1
  · rw [e] at g1; simp only [Option.some.injEq, Loc.at.injEq] at g1; exact g1.2.2.1

theorem getElem?_sliceFz {α : Type} (l : List α) (lo : Nat) (hi : Option Nat) (hh : ∀ x, hi = some x → x ≤ l.length) (i : Nat) (x : α) (h : (sliceFz l lo hi)[i]? = some x) : l[lo + i]? = some x := by
  unfold sliceFz at h
  cases hi with
  | none => simpa using h
  | some hh =>
    simp only [List.getElem?_drop, List.getElem?_take] at h
    split at h
    · exact h
    · cases h

theorem RD.slice {τ : Ty} {l : List τ.den} {a : Option Addr} {len cap lo m : Nat} {hi : Option Nat} {sz : Nat} (hsz : sz = τ.size) (hd : RD h Z (.slice τ) l [.slice a len cap])
    (hl : lo ≤ hi.getD l.length) (hh : ∀ x, hi = some x → x ≤ l.length) (hm : hi.getD l.length ≤ m) (hc : m ≤ cap) :
    len = l.length ∧ RD h Z (.slice τ) (sliceFz l lo hi) [.slice (if m = lo then a else a.map (·.add (lo * sz))) (hi.getD l.length - lo) (m - lo)] := by
  subst hsz
  have hlen : (sliceFz l lo hi).length = hi.getD l.length - lo := by
    unfold sliceFz
    cases hi with
    | none => simp
    | some x => have := hh x rfl; simp; omega
  have hb : hi.getD l.length ≤ l.length := by
    cases hi with
    | none => simp
    | some x => simpa using hh x rfl
  simp only [RD] at hd ⊢
  rcases hd with ⟨⟨a', cap', e1⟩, rfl⟩ | ⟨cb, off, cap', c, T, fz, e1, e2, e3, e4, e5, e6⟩
  · simp only [List.cons.injEq, Value.slice.injEq, and_true] at e1
    obtain ⟨rfl, rfl, rfl⟩ := e1
    simp only [List.length_nil] at hb
    have h1 : hi.getD ([] : List τ.den).length = 0 := by simpa using hb
    have : lo = 0 := by omega
    subst this
    refine ⟨rfl, .inl ⟨⟨_, _, by rw [h1]⟩, ?_⟩⟩
    unfold sliceFz; split <;> simp
  · simp only [List.cons.injEq, Value.slice.injEq, and_true] at e1
    obtain ⟨rfl, rfl, rfl⟩ := e1
    refine ⟨rfl, .inr ⟨cb, if m = lo then off else off + lo * τ.size, m - lo, c, T, fz, ?_, by rw [hlen]; omega, e3, e4, ?_, ?_⟩⟩
    · rw [hlen]; split
      · rfl
      · simp [addr_add]
    · rw [hlen]
      split
      · have : hi.getD l.length - lo = 0 := by omega
        rw [this]; omega
      · have : (lo + (hi.getD l.length - lo)) * τ.size ≤ l.length * τ.size := Nat.mul_le_mul_right _ (by omega)
        rw [Nat.add_mul] at this; omega
    · intro i x hx
      have hi' := getElem?_sliceFz l lo hi hh i x hx
      have hlt : i < hi.getD l.length - lo := by
        rw [← hlen]; exact (List.getElem?_eq_some_iff.1 hx).1
      rw [if_neg (by omega)]
      have := e6 _ _ hi'
      rw [Nat.add_mul] at this
      rw [Nat.add_assoc]; exact this

theorem sliceE_ok (hT : TOK P T) {t : TypeId} {x : Operand} {lo hi mx : Option Operand} (ho : o.op = .slice t x lo hi mx) :
    SOp P o ev M (R := R) (sliceE T M t (ev x) (lo.map ev) (hi.map ev) (mx.map ev)) := by
  intro c r hr
  unfold sliceE at hr
  have hkt : (T t).kind ≠ .bad := fun hk => by simp [hk] at hr
  obtain ⟨i1, d1, a1, a2, a3, _⟩ := hT.info hkt
  rw [a3] at hr
  have rel : ∀ {β : Nat → Option Loc} {M2 : Mem} {Z : Nat → Prop} {a : Act} {w : World}, (∀ y ∈ o.op.operands.toList, RV β M2 Z w.heap (ev y) (a.eval y)) →
      RV β M2 Z w.heap (ev x) (a.eval x) ∧ ORV β M2 Z w.heap (lo.map ev) (lo.map a.eval) ∧ ORV β M2 Z w.heap (hi.map ev) (hi.map a.eval) ∧ ORV β M2 Z w.heap (mx.map ev) (mx.map a.eval) := by
    intro β M2 Z a w hxs
    exact ⟨hxs x ((mem_ops4 ho).2 (.inl rfl)), ORV.map fun y hy => hxs y ((mem_ops4 ho).2 (.inr (.inl hy))), ORV.map fun y hy => hxs y ((mem_ops4 ho).2 (.inr (.inr (.inl hy)))),
      ORV.map fun y hy => hxs y ((mem_ops4 ho).2 (.inr (.inr (.inr hy))))⟩
  cases d1 <;> cases hx : ev x <;> simp only [K.of, hx, reduceCtorEq] at hr
  case string.str s =>
    cases hmx : mx.map ev with
    | some _ => simp [hmx] at hr
    | none =>
      simp only [hmx] at hr
      obtain ⟨l, hh, hc, h1, h2, _, h3⟩ := cutE_spec (P := P) hr
      have key : ∀ val, c { val := val } = some r → val = .str (s.extract l (hh.getD s.size)) → ∃ eff, OpOK P o ev M eff ∧ c eff = some r := by
        intro val hc hval
        refine ⟨_, OpOK.pure rfl fun M2 hM β Z a w hm hxs => ?_, hc⟩
        obtain ⟨p1, p2, p3, p4⟩ := rel hxs
        rw [hx] at p1
        rw [hmx] at p4
        obtain ⟨m, q1, q2, q3, q4⟩ := h3 _ _ _ _ _ _ _ p2 p3 (show ORV β M2 Z w.heap none none from trivial) false s.size w (Nat.le_refl _)
        refine ⟨.string (s.extract l (hh.getD s.size)), ?_, by rw [hval]; exact .str _⟩
        have hmx' : mx = none := by cases mx with | none => rfl | some _ => simp at hmx
        subst hmx'
        simp only [execOp, ho, Sem.run_bind, p1.str_inv, sliceAt_string a2, Instr.slice, run_underlying a2, Result.andThen_ok, Option.map_none, Option.isSome_none, Bool.false_eq_true, if_false, Sem.run_pure, q1]
      cases hh with
      | none => exact key _ hc (by simp)
      | some x => exact key _ hc (by simp)
  case slice.sl el b i m g =>
    have hke : (T el).kind ≠ .bad := fun hk => by cases M b <;> simp [hk] at hr
    obtain ⟨i2, d2, b1, b2, b3, b4, _⟩ := hT.info hke
    cases hb : M b <;> simp only [hb] at hr
    case row τ rw' g' ro =>
      have hr' : (bif Nat.beq g g' && Nat.beq i2.size τ.size then
        cutE (lenOf rw' i m) (lo.map ev) (hi.map ev) (mx.map ev) fun l h => match h, m with
          | none, none => c { val := .sl b (l + i) none g, fp := [b] }
          | none, some m => c { val := .sl b (l + i) (some (m - l)) g, fp := [b] }
          | some h, _ => c { val := .sl b (l + i) (some (h - l)) g, fp := [b] }
        else none) = some r := by
        rw [← b4]; revert hr; cases hk : (T el).kind <;> first | exact absurd hk hke | exact id
      cases hq : (Nat.beq g g' && Nat.beq i2.size τ.size) with
      | false => rw [hq] at hr'; cases hr'
      | true =>
        rw [hq] at hr'
        simp only [cond_true] at hr'
        simp only [Bool.and_eq_true] at hq
        have q1 := Nat.eq_of_beq_eq_true hq.1
        have q2 := Nat.eq_of_beq_eq_true hq.2
        subst q1
        obtain ⟨l, hh, hc, h1, h2, _, h3⟩ := cutE_spec (P := P) hr'
        have key : ∀ m', c { val := .sl b (l + i) m' g, fp := [b] } = some r → ((m' = none ∧ m = none ∧ hh.getD (lenOf rw' i m) = lenOf rw' i m) ∨ m' = some (hh.getD (lenOf rw' i m) - l)) → ∃ eff, OpOK P o ev M eff ∧ c eff = some r := by
          intro m' hc hm'
          refine ⟨_, OpOK.pure rfl fun M2 hM β Z a w hm hxs => ?_, hc⟩
          obtain ⟨p1, p2, p3, p4⟩ := rel hxs
          rw [hx] at p1
          have hb2 : M2 b = .row τ rw' g ro := by rw [hM b (by simp)]; exact hb
          have hgen : (M2 b).gen = some g := by simp [hb2, Blk.gen]
          have hs := p1.sl_inv hgen
          obtain ⟨ad, cap, e1, e2⟩ := hs.len hm hb2
          rw [e1] at hs
          obtain ⟨mm, r1, r2, r3, _⟩ := h3 _ _ _ _ _ _ _ p2 p3 p4 true cap w e2
          have hle : hh.getD (lenOf rw' i m) ≤ lenOf rw' i m := by
            cases hh with
            | none => simp
            | some x => simpa using h1 x rfl
          have hcut := hs.cut (sz0 := i2.size) (fun cb base sz top e => by rw [SlOk.size hm hb2 cb base sz top e, q2]) h2 hle r2 r3 m' hm'
          refine ⟨_, ?_, .sl b (l + i) m' g _ rfl (by simp [hb2]) fun g0 hg0 => by rw [hgen] at hg0; cases hg0; exact ⟨Nat.le_refl _, fun _ => hcut⟩⟩
          have := run_slice (P := P) a2 b1 (a := ad) r1
          simp only [execOp, ho, Sem.run_bind, e1, this, Result.andThen_ok, Sem.run_pure]
        cases hh with
        | none => cases m with
          | none => exact key none hc (.inl ⟨rfl, rfl, by simp⟩)
          | some m0 => exact key _ hc (.inr (by simp [lenOf]))
        | some x => cases m with
          | none => exact key _ hc (.inr (by simp))
          | some m0 => exact key _ hc (.inr (by simp))
    all_goals (revert hr; cases hk : (T el).kind <;> first | exact absurd hk hke | (intro hr; cases hr))
  case slice.fz el τ rw' =>
    have hke : (T el).kind ≠ .bad := fun hk => by simp [hk] at hr
    obtain ⟨i2, d2, b1, b2, b3, b4, _⟩ := hT.info hke
    have hr' : (bif Nat.beq i2.size τ.size then cutE rw'.length (lo.map ev) (hi.map ev) (mx.map ev) fun l h => c { val := .fz τ (sliceFz rw' l h) } else none) = some r := by
      rw [← b4]; revert hr; cases hk : (T el).kind <;> first | exact absurd hk hke | exact id
    cases hq : (Nat.beq i2.size τ.size) with
    | false => rw [hq] at hr'; cases hr'
    | true =>
      rw [hq] at hr'
      simp only [cond_true] at hr'
      have q2 := Nat.eq_of_beq_eq_true hq
      obtain ⟨l, hh, hc, h1, h2, _, h3⟩ := cutE_spec (P := P) hr'
      refine ⟨_, OpOK.pure rfl fun M2 hM β Z a w hm hxs => ?_, hc⟩
      obtain ⟨p1, p2, p3, p4⟩ := rel hxs
      rw [hx] at p1
      have hd := p1.fz_inv
      obtain ⟨ad, len, cap, e1, e2⟩ : ∃ ad len cap, a.eval x = .slice ad len cap ∧ rw'.length ≤ cap := by
        have hd' := hd
        simp only [RD] at hd'
        rcases hd' with ⟨⟨_, _, e1⟩, rfl⟩ | ⟨cb, off, cap, c', Te, fz', e1, e2, _⟩
        · simp only [List.cons.injEq, and_true] at e1; exact ⟨_, _, _, e1, by simp⟩
        · simp only [List.cons.injEq, and_true] at e1; exact ⟨_, _, _, e1, e2⟩
      rw [e1] at hd
      obtain ⟨mm, r1, r2, r3, _⟩ := h3 _ _ _ _ _ _ _ p2 p3 p4 true cap w e2
      obtain ⟨hlen, hd2⟩ := RD.slice q2 hd h2 h1 r2 r3
      refine ⟨_, ?_, .fz τ _ _ hd2⟩
      rw [← hlen] at r1
      have := run_slice (P := P) a2 b1 (a := ad) r1
      rw [← hlen]
      simp only [execOp, ho, Sem.run_bind, e1, this, Result.andThen_ok, Sem.run_pure]
  case slice.nils el =>
    have hke : (T el).kind ≠ .bad := fun hk => by simp [hk] at hr
    obtain ⟨i2, d2, b1, b2, b3, b4, _⟩ := hT.info hke
    have hr' : (match mx.map ev with
      | none => cutE 0 (lo.map ev) (hi.map ev) none fun _ _ => c { val := .nils }
      | some _ => none) = some r := by
      revert hr; cases hk : (T el).kind <;> first | exact absurd hk hke | exact id
    cases hmx : mx.map ev with
    | some _ => simp [hmx] at hr'
    | none =>
      simp only [hmx] at hr'
      obtain ⟨l, hh, hc, h1, h2, _, h3⟩ := cutE_spec (P := P) hr'
      refine ⟨_, OpOK.pure rfl fun M2 hM β Z a w hm hxs => ?_, hc⟩
      obtain ⟨p1, p2, p3, p4⟩ := rel hxs
      rw [hx] at p1
      rw [hmx] at p4
      obtain ⟨m, q1, q2, q3, q4⟩ := h3 _ _ _ _ _ _ _ p2 p3 p4 true 0 w (Nat.le_refl _)
      have e1 : hh.getD 0 = 0 := by
        cases hh with
        | none => rfl
        | some x => have := h1 x rfl; simpa using this
      rw [e1] at h2 q1
      have e2 : l = 0 := by omega
      have e3 : m = 0 := by omega
      subst e2; subst e3
      have := run_slice (P := P) a2 b1 (a := none) q1
      refine ⟨.slice none 0 0, ?_, .nils⟩
      simp only [execOp, ho, Sem.run_bind, p1.nils_inv, this, Result.andThen_ok, Sem.run_pure]
      rfl
  case array.ptr n el b i j g =>
    have hke : (T el).kind ≠ .bad := fun hk => by simp [hk] at hr
    obtain ⟨i2, d2, b1, b2, b3, b4, _⟩ := hT.info hke
    have hr' : (match M b, lo.map ev, mx.map ev with
      | .box cells, none, none => bif Nat.beq i 0 && Nat.beq g 0 && Nat.ble (j + n * i2.size) cells.length then cutE n none (hi.map ev) none fun _ h => c { val := .sb b j i2.size (h.getD n), fp := [b] } else none
      | _, _, _ => none) = some r := by
      rw [← b4]; revert hr; cases hk : (T el).kind <;> first | exact absurd hk hke | exact id
    cases hb : M b <;> simp only [hb, reduceCtorEq] at hr'
    rename_i cells
    cases lo <;> cases mx <;> simp only [Option.map_none, Option.map_some, reduceCtorEq] at hr'
    cases hq : (Nat.beq i 0 && Nat.beq g 0 && Nat.ble (j + n * i2.size) cells.length) with
    | false => rw [hq] at hr'; cases hr'
    | true =>
      rw [hq] at hr'
      simp only [cond_true] at hr'
      simp only [Bool.and_eq_true] at hq
      have q1 := Nat.eq_of_beq_eq_true hq.1.1
      have q2 := Nat.eq_of_beq_eq_true hq.1.2
      have q3 := Nat.le_of_ble_eq_true hq.2
      subst q1; subst q2
      obtain ⟨l, hh, hc, k1, k2, _, k3⟩ := cutE_spec (P := P) hr'
      refine ⟨_, OpOK.pure rfl fun M2 hM β Z a w hm hxs => ?_, hc⟩
      obtain ⟨p1, p2, p3, p4⟩ := rel hxs
      rw [hx] at p1
      have hb2 : M2 b = .box cells := by rw [hM b (by simp)]; exact hb
      obtain ⟨hi0, cb, base, sz, top, e1, e2⟩ := p1.ptr_inv (by simp [hb2, Blk.gen])
      obtain ⟨m, n1, n2, n3, n4⟩ := k3 _ _ _ _ _ _ _ (show ORV β M2 Z w.heap none none from trivial) p3 (show ORV β M2 Z w.heap none none from trivial) false n w (Nat.le_refl _)
      have hm' := n4 rfl
      subst hm'
      have hl0 : l = 0 := by
        have hrun := n1
        simp only [Instr.sliceBounds, Sem.run_bind, Sem.run_pure, Result.andThen_ok] at hrun
        cases hi with
        | none =>
          simp at hrun
          omega
        | some y =>
          simp only [Option.map_some, Sem.run_bind] at hrun
          cases hrr : (Instr.sliceBound (a.eval y) m (if false = true then .sliceAcap else .sliceAlen)).run P w with
          | ok v w' =>
            rw [hrr] at hrun
            simp [Result.andThen] at hrun
            omega
          | halt _ _ =>
            rw [hrr] at hrun
            simp [Result.andThen] at hrun
      subst hl0
      have hhn : hh.getD m ≤ m := n2
      have hmul : hh.getD m * i2.size ≤ m * i2.size := Nat.mul_le_mul_right _ hhn
      refine ⟨.slice (some ⟨cb, base + j, none⟩) (hh.getD m) m, ?_, .sb b j _ (hh.getD m) _ rfl (by simp [hb2]) fun g0 _ _ => ⟨by simp only [hb2, Blk.len]; omega, by simp [hb2, Blk.isBox], cb, base, sz, top, m, e1, rfl, hhn, by simp only [hb2, Blk.len]; exact q3⟩⟩
      simp [execOp, ho, Instr.sliceAt, run_underlying a2, e2, Instr.sureAddr, run_sizeOf' b1, Addr.add, n1]

theorem lenE_ok (hT : TOK P T) {q : Call} {t : TypeId} {x : Operand} (ho : o.op = .call q) (hq : q.callee = .builtin .len) (hargs : q.args.toList[0]? = some x) (hts : q.argTypes.toList[0]? = some t) :
    SOp P o ev M (R := R) (lenE T M t (ev x)) := by
  intro c r hr
  unfold lenE at hr
  have hkt : (T t).kind ≠ .bad := fun hk => by simp [hk] at hr
  obtain ⟨i1, d1, a1, a2, a3, _⟩ := hT.info hkt
  rw [a3] at hr
  have ha0 : q.args[0]? = some x := by simpa using hargs
  have ht0 : q.argTypes[0]? = some t := by simpa using hts
  have hxm : x ∈ o.op.operands.toList := by
    simp [ho, Op.operands, Call.operands, hq]
    exact Array.mem_of_getElem? ha0
  have fin : ∀ {a : Act} {w : World} {n : Nat}, (Builtin.len_ q.argTypes o.type (q.args.map a.eval)).run P w = .ok (.int .i64 n) w → (execOp a.eval o).run P w = .ok (.value (.int .i64 n)) w := by
    intro a w n hrun
    simp [execOp, ho, resolve, hq, invoke, builtin, hrun]
  have op0 : ∀ {a : Act}, (q.args.map a.eval)[0]? = some (a.eval x) := by intro a; simp [ha0]
  have run : ∀ {a : Act} {w : World} {n : Nat} , (match d1, a.eval x with
      | .string, .string s => n = s.size
      | .array m _, _ => n = m
      | .slice _, .slice _ m _ => n = m
      | _, _ => False) → (Builtin.len_ q.argTypes o.type (q.args.map a.eval)).run P w = .ok (.int .i64 n) w := by
    intro a w n hm
    unfold Builtin.len_
    simp only [ht0, op0, Sem.run_bind, run_underlying a2, Result.andThen_ok]
    split at hm
    · subst hm; simp [*, goInt]
    · subst hm; simp [goInt]
    · subst hm; simp [*, goInt]
    · exact hm.elim
  cases d1 <;> cases hx : ev x <;> simp only [K.of, hx, reduceCtorEq] at hr
  case slice.sl el b i m g =>
    cases hb : M b <;> simp only [hb, reduceCtorEq] at hr
    rename_i τ l g' ro
    cases hq' : Nat.beq g g' with
    | false => rw [hq'] at hr; cases hr
    | true =>
      rw [hq'] at hr
      have q1 := Nat.eq_of_beq_eq_true hq'
      subst q1
      refine ⟨_, OpOK.pure rfl fun M2 hM β Z a w hm hxs => ?_, hr⟩
      have p1 := hxs x hxm
      rw [hx] at p1
      have hb2 : M2 b = .row τ l g ro := by rw [hM b (by simp)]; exact hb
      obtain ⟨ad, cap, e1, e2⟩ := (p1.sl_inv (by simp [hb2, Blk.gen])).len hm hb2
      exact ⟨_, fin (run (by simp only [e1])), .int _ _⟩
  case slice.sb el b j s n =>
    cases hb : M b <;> simp only [hb, reduceCtorEq] at hr
    rename_i cells
    refine ⟨_, OpOK.pure rfl fun M2 hM β Z a w hm hxs => ?_, hr⟩
    have p1 := hxs x hxm
    rw [hx] at p1
    have hb2 : M2 b = .box cells := by rw [hM b (by simp)]; exact hb
    obtain ⟨_, _, cb, base, sz, top, cap, _, s4, _⟩ := p1.sb_inv (by simp [hb2, Blk.gen])
    exact ⟨_, fin (run (by simp only [s4])), .int _ _⟩
  case slice.fz el τ l =>
    refine ⟨_, OpOK.pure rfl fun M2 hM β Z a w hm hxs => ?_, hr⟩
    have p1 := hxs x hxm
    rw [hx] at p1
    have hd' := p1.fz_inv
    simp only [RD] at hd'
    rcases hd' with ⟨⟨_, _, e1⟩, rfl⟩ | ⟨cb, off, cap, c', Te, fz', e1, e2, _⟩
    · simp only [List.cons.injEq, and_true] at e1; exact ⟨_, fin (run (by simp only [e1]; rfl)), .int _ _⟩
    · simp only [List.cons.injEq, and_true] at e1; exact ⟨_, fin (run (by simp only [e1])), .int _ _⟩
  case slice.nils el =>
    refine ⟨_, OpOK.pure rfl fun M2 hM β Z a w hm hxs => ?_, hr⟩
    have p1 := hxs x hxm
    rw [hx] at p1
    exact ⟨_, fin (run (by simp only [p1.nils_inv])), .int _ _⟩
  case map.mp kt et b =>
    cases hb : M b <;> simp only [hb, reduceCtorEq] at hr
    rename_i q' τ l
    refine ⟨_, OpOK.pure rfl fun M2 hM β Z a w hm hxs => ?_, hr⟩
    have p1 := hxs x hxm
    rw [hx] at p1
    have hb2 : M2 b = .mp q' τ l := by rw [hM b (by simp)]; exact hb
    obtain ⟨cb, es, clock, e1, _, e2, e3⟩ := p1.mp_inv hm hb2
    refine ⟨_, fin ?_, .int _ _⟩
    unfold Builtin.len_
    simp [ht0, op0, Sem.run_bind, run_underlying a2, Result.andThen, e1, MapKept.run_getObj_map e2, e3.2.1, goInt]
  case string.str s =>
    refine ⟨_, OpOK.pure rfl fun M2 hM β Z a w hm hxs => ?_, hr⟩
    have p1 := hxs x hxm
    rw [hx] at p1
    exact ⟨_, fin (run (by simp only [p1.str_inv])), .int _ _⟩
  all_goals
    refine ⟨_, OpOK.pure rfl fun M2 hM β Z a w hm hxs => ?_, hr⟩
    exact ⟨_, fin (run rfl), .int _ _⟩

end
end Go.Pv
/-! ### New blocks, and writes into blocks of one's own: what is kept. -/
namespace Go.Pv
section
variable {P : Program} {M2 M' : Mem} {β : Nat → Option Loc} {Z : Nat → Prop} {h h' : Heap}

def updβ (β : Nat → Option Loc) (b : Nat) (l : Loc) : Nat → Option Loc := fun x => if x = b then some l else β x

theorem upd_same (M : Mem) (b : Nat) (k : Blk) : (M.upd b k) b = k := by simp [Mem.upd]
theorem upd_ne (M : Mem) {b x : Nat} (k : Blk) (h : x ≠ b) : (M.upd b k) x = M x := by
  have : Nat.beq x b = false := by
    cases e : Nat.beq x b with
    | false => rfl
    | true => exact absurd (Nat.eq_of_beq_eq_true e) h
  simp [Mem.upd, this]
theorem updβ_same (β : Nat → Option Loc) (b : Nat) (l : Loc) : updβ β b l b = some l := by simp [updβ]
theorem updβ_ne (β : Nat → Option Loc) {b x : Nat} (l : Loc) (h : x ≠ b) : updβ β b l x = β x := by simp [updβ, h]

theorem Wd.alloc (w : World) (c : Array Value) (t : TypeId) : Wd w (w.alloc (.cells c t (0, 0))) := ⟨rfl, rfl⟩

theorem Wd.grow (w : World) (c : Array Value) (t : TypeId) : Wd w (w.drew.alloc (.cells c t (0, 0))) := Wd.alloc w.drew c t

theorem Wd.setRow (w : World) (cb : Nat) (c : Array Value) : Wd w (w.setRow cb c) := ⟨rfl, rfl⟩

/-- A new block: k at id, in a new concrete block (or in none: an empty row). -/
theorem new_ev (hm : RMem β M2 Z h) {id : Nat} (hid : M2 id = .none) (k : Blk) (loc : Loc) (hloc : ∀ cb base sz top, loc = .at cb base sz top → h.size ≤ cb)
    (hs : h.size ≤ h'.size) (hh : ∀ cb, cb < h.size → h'[cb]? = h[cb]?) : Ev β M2 Z h (updβ β id loc) (M2.upd id k) Z h' := by
  have ne : ∀ {b : Nat}, M2 b ≠ .none → b ≠ id := fun hb e => hb (by rw [e]; exact hid)
  refine { zkeep := fun cb hz => hh cb (hm.zlt.lt cb hz), zmono := fun _ h => h, nn := fun b hb => by rw [upd_ne _ _ (ne hb)]; exact hb, gone := fun b hb hg => by rw [upd_ne _ _ (ne hb)]; exact hg, gens := ?_, size := hs, frame := fun cb hlt _ => hh cb hlt, own := ?_, znew := fun _ h => .inl h }
  · intro b g hg g' hg'
    have hb : b ≠ id := ne fun e => by rw [gen_none e] at hg; cases hg
    rw [upd_ne _ _ hb] at hg' ⊢
    rw [hg] at hg'; cases hg'
    exact ⟨Nat.le_refl _, fun _ => ⟨updβ_ne _ _ hb, rfl, rfl, rfl⟩⟩
  · rintro cb ⟨b, h1, h2, h3⟩
    by_cases hb : b = id
    · subst hb
      rw [updβ_same] at h3
      cases loc with
      | virt => simp [Loc.blk?] at h3
      | «at» c2 base sz top => simp only [Loc.blk?, Option.some.injEq] at h3; subst h3; exact .inl (hloc _ _ _ _ rfl)
    · rw [upd_ne _ _ hb] at h1 h2
      rw [updβ_ne _ _ hb] at h3
      exact .inr ⟨b, h1, h2, h3⟩

theorem new_mem (hm : RMem β M2 Z h) {id : Nat} (hid : M2 id = .none) (k : Blk) (loc : Loc) (hloc : ∀ cb base sz top, loc = .at cb base sz top → h.size ≤ cb)
    (hs : h.size ≤ h'.size) (hh : ∀ cb, cb < h.size → h'[cb]? = h[cb]?) (hb : RB (updβ β id loc) (M2.upd id k) Z h' id) : RMem (updβ β id loc) (M2.upd id k) Z h' := by
  have ev := new_ev hm hid k loc hloc hs hh
  have hlies : ∀ {b cb : Nat}, b ≠ id → lies (updβ β id loc) (M2.upd id k) b cb → lies β M2 b cb := by
    intro b cb hne hl
    unfold lies at *
    rw [upd_ne _ _ hne, updβ_ne _ _ hne] at hl
    exact hl
  have hnew : ∀ {cb : Nat}, lies (updβ β id loc) (M2.upd id k) id cb → h.size ≤ cb := by
    rintro cb ⟨_, h3⟩
    rw [updβ_same] at h3
    cases loc with
    | virt => simp [Loc.blk?] at h3
    | «at» c2 base sz top => simp only [Loc.blk?, Option.some.injEq] at h3; subst h3; exact hloc _ _ _ _ rfl
  refine ⟨fun b => ?_, ?_, ?_, hm.zlt.mono (fun cb hz => hh cb (hm.zlt.lt cb hz)) (fun _ h => h) fun cb hz => Nat.lt_of_lt_of_le (hm.zlt.lt cb hz) hs⟩
  · by_cases e : b = id
    · rw [e]; exact hb
    · exact (hm.blk b).keep ev.toGrow (upd_ne _ _ e) (fun _ => updβ_ne _ _ e) fun cb hl => hh cb (lies_lt (hm.blk b) hl)
  · intro b b' cb ho hl hl'
    by_cases e : b = id
    · by_cases e' : b' = id
      · rw [e, e']
      · exfalso; rw [e] at hl
        have := hnew hl; have := lies_lt (hm.blk b') (hlies e' hl'); omega
    · by_cases e' : b' = id
      · exfalso; rw [e'] at hl'
        have := hnew hl'; have := lies_lt (hm.blk b) (hlies e hl); omega
      · rw [upd_ne _ _ e] at ho
        exact hm.sep b b' cb ho (hlies e hl) (hlies e' hl')
  · intro cb hz ho
    rcases ev.own cb ho with q | q
    · have := hm.zlt.lt cb hz; omega
    · exact hm.zown cb hz q

/-- a new box -/
theorem new_box (hm : RMem β M2 Z h) {id : Nat} (hid : M2 id = .none) {cells : List V} {c : Array Value} (hr : RL β M2 Z h cells c.toList) (T : TypeId) :
    RMem (updβ β id (.at h.size 0 1 c.size)) (M2.upd id (.box cells)) Z (h.push (.cells c T (0, 0))) ∧
    Ev β M2 Z h (updβ β id (.at h.size 0 1 c.size)) (M2.upd id (.box cells)) Z (h.push (.cells c T (0, 0))) ∧
    RV (updβ β id (.at h.size 0 1 c.size)) (M2.upd id (.box cells)) Z (h.push (.cells c T (0, 0))) (.ptr id 0 0 0) (.pointer (some ⟨h.size, 0, none⟩)) := by
  have hs : h.size ≤ (h.push (.cells c T (0, 0))).size := by simp
  have hh : ∀ cb, cb < h.size → (h.push (.cells c T (0, 0)))[cb]? = h[cb]? := fun cb hlt => by rw [Array.getElem?_push]; rw [if_neg (by omega)]
  have hl : ∀ cb base sz top, Loc.at h.size 0 1 c.size = .at cb base sz top → h.size ≤ cb := fun cb base sz top e => by cases e; exact Nat.le_refl _
  have ev := new_ev hm hid (.box cells) (.at h.size 0 1 c.size) hl hs hh
  refine ⟨new_mem hm hid (.box cells) _ hl hs hh ?_, ev, ?_⟩
  · unfold RB
    simp only [upd_same]
    refine ⟨h.size, T, c, updβ_same _ _ _, by simp, ?_, ?_⟩
    · have := hr.1; simpa using this.symm
    · have := (hr.mono ev.toGrow).to_arr; exact this.2
  · refine .ptr id 0 0 0 _ rfl (by rw [upd_same]; simp) fun g0 hg0 => ?_
    rw [upd_same] at hg0 ⊢
    simp only [Blk.gen, Option.some.injEq] at hg0
    subst hg0
    exact ⟨Nat.le_refl _, fun _ => ⟨by simp [Blk.cnt], h.size, 0, 1, c.size, updβ_same _ _ _, by simp⟩⟩

/-- a new row -/
theorem new_row (hm : RMem β M2 Z h) {id : Nat} (hid : M2 id = .none) {τ : Ty} {l : List τ.den} {c : Array Value} {cap : Nat} (hc : cap * τ.size = c.size) (hl : l.length ≤ cap)
    (hr : ∀ i x, l[i]? = some x → RD h Z τ x ((c.toList.drop (i * τ.size)).take τ.size)) (T : TypeId) :
    RMem (updβ β id (.at h.size 0 τ.size c.size)) (M2.upd id (.row τ l 0 false)) Z (h.push (.cells c T (0, 0))) ∧
    Ev β M2 Z h (updβ β id (.at h.size 0 τ.size c.size)) (M2.upd id (.row τ l 0 false)) Z (h.push (.cells c T (0, 0))) ∧
    RV (updβ β id (.at h.size 0 τ.size c.size)) (M2.upd id (.row τ l 0 false)) Z (h.push (.cells c T (0, 0))) (.sl id 0 none 0) (.slice (some ⟨h.size, 0, none⟩) l.length cap) := by
  have hs : h.size ≤ (h.push (.cells c T (0, 0))).size := by simp
  have hh : ∀ cb, cb < h.size → (h.push (.cells c T (0, 0)))[cb]? = h[cb]? := fun cb hlt => by rw [Array.getElem?_push]; rw [if_neg (by omega)]
  have hlo : ∀ cb base sz top, Loc.at h.size 0 τ.size c.size = .at cb base sz top → h.size ≤ cb := fun cb base sz top e => by cases e; exact Nat.le_refl _
  have ev := new_ev hm hid (.row τ l 0 false) (.at h.size 0 τ.size c.size) hlo hs hh
  refine ⟨new_mem hm hid (.row τ l 0 false) _ hlo hs hh ?_, ev, ?_⟩
  · unfold RB
    simp only [upd_same]
    refine .inr ⟨h.size, 0, T, c, (0, 0), updβ_same _ _ _, by simp, by simp, ?_, fun i x hx => ?_, by simp⟩
    · have := Nat.mul_le_mul_right τ.size hl; omega
    · have := (hr i x hx).mono ev.zkeep ev.zmono
      simpa using this
  · refine .sl id 0 none 0 _ rfl (by rw [upd_same]; simp) fun g0 hg0 => ?_
    rw [upd_same] at hg0 ⊢
    simp only [Blk.gen, Option.some.injEq] at hg0
    subst hg0
    exact ⟨Nat.le_refl _, fun _ => .inr ⟨h.size, 0, τ.size, c.size, 0, l.length, cap, updβ_same _ _ _, rfl, by simp, by omega, hl, by simp; omega, by simp [Blk.cnt]⟩⟩

/-- an empty row that lies nowhere -/
theorem new_virt (hm : RMem β M2 Z h) {id : Nat} (hid : M2 id = .none) (τ : Ty) :
    RMem (updβ β id .virt) (M2.upd id (.row τ [] 0 false)) Z h ∧ Ev β M2 Z h (updβ β id .virt) (M2.upd id (.row τ [] 0 false)) Z h ∧
    RV (updβ β id .virt) (M2.upd id (.row τ [] 0 false)) Z h (.sl id 0 none 0) (.slice none 0 0) := by
  have hlo : ∀ cb base sz top, Loc.virt = .at cb base sz top → h.size ≤ cb := fun cb base sz top e => by cases e
  have ev := new_ev hm hid (.row τ [] 0 false) .virt hlo (Nat.le_refl _) (fun _ _ => rfl)
  refine ⟨new_mem hm hid (.row τ [] 0 false) _ hlo (Nat.le_refl _) (fun _ _ => rfl) ?_, ev, ?_⟩
  · unfold RB
    simp only [upd_same]
    exact .inl ⟨by trivial, updβ_same _ _ _⟩
  · refine .sl id 0 none 0 _ rfl (by rw [upd_same]; simp) fun g0 hg0 => ?_
    rw [upd_same] at hg0 ⊢
    simp only [Blk.gen, Option.some.injEq] at hg0
    subst hg0
    exact ⟨Nat.le_refl _, fun _ => .inl ⟨updβ_same _ _ _, rfl, .inl rfl, rfl⟩⟩

/-- A write into the concrete block of b, which is ours: b becomes k'. -/
theorem wr_ev (hm : RMem β M2 Z h) {b cb : Nat} {k' : Blk} (ho : (M2 b).own = true) (hl : Loc.blk? (β b) = some cb ∨ β b = some .virt)
    (hg : k'.gen = (M2 b).gen) (hlen : k'.len = (M2 b).len) (hcnt : k'.cnt = (M2 b).cnt) (hbox : k'.isBox = (M2 b).isBox)
    (hs : h'.size = h.size) (hh : ∀ x, Loc.blk? (β b) ≠ some x → h'[x]? = h[x]?) : Ev β M2 Z h β (M2.upd b k') Z h' := by
  have hgen : (M2 b).gen ≠ none := by cases hb : M2 b <;> simp [hb, Blk.own, Blk.gen] at *
  have howned : ∀ x, Loc.blk? (β b) = some x → owned β M2 x := fun x hx => ⟨b, ho, hgen, hx⟩
  have hh' : ∀ x, ¬ owned β M2 x → h'[x]? = h[x]? := fun x hx => hh x fun e => hx (howned x e)
  refine { zkeep := fun x hz => hh' x (hm.zown x hz), zmono := fun _ h => h, nn := ?_, gone := ?_, gens := ?_, size := by omega, frame := fun x _ hx => hh' x hx, own := ?_, znew := fun _ h => .inl h }
  · intro x hx
    by_cases e : x = b
    · rw [e, upd_same]; intro e2; rw [e2] at hg; exact hgen hg.symm
    · rw [upd_ne _ _ e]; exact hx
  · intro x hx hn
    by_cases e : x = b
    · rw [e] at hn; exact absurd hn hgen
    · rw [upd_ne _ _ e]; exact hn
  · intro x g hx g' hx'
    by_cases e : x = b
    · subst e
      rw [upd_same] at hx' ⊢
      rw [hg, hx] at hx'; cases hx'
      exact ⟨Nat.le_refl _, fun _ => ⟨rfl, hlen, hcnt, hbox⟩⟩
    · rw [upd_ne _ _ e] at hx' ⊢
      rw [hx] at hx'; cases hx'
      exact ⟨Nat.le_refl _, fun _ => ⟨rfl, rfl, rfl, rfl⟩⟩
  · rintro x ⟨y, h1, h2, h3⟩
    by_cases e : y = b
    · subst e; exact .inr (howned x h3)
    · rw [upd_ne _ _ e] at h1 h2
      exact .inr ⟨y, h1, h2, h3⟩

theorem wr_mem (hm : RMem β M2 Z h) {b cb : Nat} {k' : Blk} (ho : (M2 b).own = true) (hl : Loc.blk? (β b) = some cb ∨ β b = some .virt)
    (hg : k'.gen = (M2 b).gen) (hlen : k'.len = (M2 b).len) (hcnt : k'.cnt = (M2 b).cnt) (hbox : k'.isBox = (M2 b).isBox)
    (hs : h'.size = h.size) (hh : ∀ x, Loc.blk? (β b) ≠ some x → h'[x]? = h[x]?) (hb : RB β (M2.upd b k') Z h' b) : RMem β (M2.upd b k') Z h' := by
  have ev := wr_ev hm ho hl hg hlen hcnt hbox hs hh
  have hgen : (M2 b).gen ≠ none := by cases hb : M2 b <;> simp [hb, Blk.own, Blk.gen] at *
  have hlies : ∀ {x cb : Nat}, lies β (M2.upd b k') x cb → lies β M2 x cb := by
    intro x cb hl
    by_cases e : x = b
    · subst e; exact ⟨hgen, hl.2⟩
    · unfold lies at *; rw [upd_ne _ _ e] at hl; exact hl
  refine ⟨fun x => ?_, ?_, ?_, hm.zlt.mono ev.zkeep (fun _ h => h) fun cb hz => by rw [hs]; exact hm.zlt.lt cb hz⟩
  · by_cases e : x = b
    · rw [e]; exact hb
    · refine (hm.blk x).keep ev.toGrow (upd_ne _ _ e) (fun _ => rfl) fun cb hlx => hh cb fun e2 => e ?_
      exact (hm.sep b x cb ho ⟨hgen, e2⟩ hlx).symm
  · intro x x' cb hox hlx hlx'
    by_cases e : x = b
    · subst e; exact hm.sep x x' cb ho (hlies hlx) (hlies hlx')
    · rw [upd_ne _ _ e] at hox
      exact hm.sep x x' cb hox (hlies hlx) (hlies hlx')
  · rintro cb hz ⟨y, h1, h2, h3⟩
    refine hm.zown cb hz ?_
    by_cases e : y = b
    · subst e; exact ⟨y, ho, hgen, h3⟩
    · rw [upd_ne _ _ e] at h1 h2; exact ⟨y, h1, h2, h3⟩

end
end Go.Pv
/-! ### Operations that make blocks or write them: alloc, box, build, store. -/
namespace Go.Pv
section
variable {P : Program} {T : TypeId → TT} {o : Oper} {ev : Operand → V} {M : Mem} {R : Type}
variable {β : Nat → Option Loc} {M2 : Mem} {Z : Nat → Prop} {h : Heap}

theorem newE_inv {id : Nat} {k : Blk} {v : V} {more : List (Nat × Blk)} {fp : List Nat} {c : Eff → Option R} {r : R} (hr : newE M id k v more fp c = some r) :
    M id = .none ∧ c { val := v, upd := (id, k) :: more, fp := id :: fp } = some r := by
  unfold newE at hr
  cases hm : M id <;> simp only [hm, reduceCtorEq] at hr
  exact ⟨rfl, hr⟩

theorem RL.zero {z : Value} : RL β M2 Z h (z.cells.toList.map V.ofValue) z.cells.toList := by
  refine ⟨by simp, fun i x v hx hv => ?_⟩
  simp only [List.getElem?_map, hv, Option.map_some, Option.some.injEq] at hx
  subst hx
  exact RV.ofValue v

/-- the cells of a value -/
theorem cells_ok {x : V} {cs : List V} (hc : x.cells? = some cs) {v : Value} (r : RV β M2 Z h x v) : RL β M2 Z h cs v.cells.toList := by
  cases r <;> simp only [V.cells?, reduceCtorEq, Option.some.injEq] at hc <;> subst hc
  case bool b => exact RL.cons (.bool b) RL.nil
  case int k n => exact RL.cons (.int k n) RL.nil
  case str s => exact RL.cons (.str s) RL.nil
  case nils => exact RL.cons .nils RL.nil
  case nilp => exact RL.cons .nilp RL.nil
  case nilf => exact RL.cons .nilf RL.nil
  case nilm => exact RL.cons .nilm RL.nil
  case mp b hn h1 hg =>
    have : v.cells = #[v] := by cases v <;> first | rfl | (simp [Value.oneCell'] at h1)
    rw [this]; exact RL.cons (.mp b v h1 hn hg) RL.nil
  case ptr b i j g hn h1 hg =>
    have : v.cells = #[v] := by cases v <;> first | rfl | (simp [Value.oneCell'] at h1)
    rw [this]; exact RL.cons (.ptr b i j g v h1 hn hg) RL.nil
  case pa b j e n x o hn h1 hg =>
    have : v.cells = #[v] := by cases v <;> first | rfl | (simp [Value.oneCell'] at h1)
    rw [this]; exact RL.cons (.pa b j e n x o v h1 hn hg) RL.nil
  case sl b i m g hn h1 hg =>
    have : v.cells = #[v] := by cases v <;> first | rfl | (simp [Value.oneCell'] at h1)
    rw [this]; exact RL.cons (.sl b i m g v h1 hn hg) RL.nil
  case sb b j s n hn h1 hg =>
    have : v.cells = #[v] := by cases v <;> first | rfl | (simp [Value.oneCell'] at h1)
    rw [this]; exact RL.cons (.sb b j s n v h1 hn hg) RL.nil
  case fz τ l hd =>
    have : v.cells = #[v] := by
      simp only [RD] at hd
      rcases hd with ⟨⟨_, _, e⟩, _⟩ | ⟨_, _, _, _, _, _, e, _⟩ <;> simp only [List.cons.injEq, and_true] at e <;> subst e <;> rfl
    rw [this]; exact RL.cons (.fz τ l v hd) RL.nil
  case fp τ l i j cb off c T fz x hz hcc hx ho hd hv =>
    have : v.cells = #[v] := by subst hv; rfl
    rw [this]; exact RL.cons (.fp τ l i j v cb off c T fz x hv hz hcc hx ho hd) RL.nil
  case fn f cap vs hl hcc => exact RL.cons (.fn f cap vs hl hcc) RL.nil
  case agg vs hl hcc => exact RL.of_arr hl hcc

/-- what may be stored in one cell -/
theorem flat_ok {x : V} (hf : x.flat = true) {v : Value} (r : RV β M2 Z h x v) : v.oneCell' = true := by
  cases r <;> simp only [V.flat, Bool.false_eq_true] at hf <;> first | rfl | assumption | skip
  case fz τ l hd =>
    simp only [RD] at hd
    rcases hd with ⟨⟨_, _, e⟩, _⟩ | ⟨_, _, _, _, _, _, e, _⟩ <;> simp only [List.cons.injEq, and_true] at e <;> subst e <;> rfl
  case fp τ l i j cb off c T fz x hz hcc hx ho hd hv => subst hv; rfl

theorem flats_ok {cs : List V} (hf : cs.all V.flat = true) {vs : List Value} (r : RL β M2 Z h cs vs) : ∀ v ∈ vs, v.oneCell' = true := by
  intro v hv
  obtain ⟨i, hi, rfl⟩ := List.getElem_of_mem hv
  have hl := r.1
  have hi' : i < cs.length := by omega
  exact flat_ok (List.all_eq_true.1 hf cs[i] (List.getElem_mem hi')) (r.2 i cs[i] vs[i] (by simp [hi']) (by simp [hi]))

theorem allocE_ok (hT : TOK P T) {id : Nat} {t : TypeId} (ho : o.op = .alloc t) : SOp P o ev M (R := R) (allocE T M id t) := by
  intro c r hr
  unfold allocE at hr
  have hkt : (T t).kind ≠ .bad := fun hk => by simp [hk] at hr
  cases hz : (T t).zero with
  | none => revert hr; cases (T t).kind <;> simp [hz]
  | some z =>
    have hr' : newE M id (.box z) (.ptr id 0 0 0) [] [] c = some r := by
      rw [hz] at hr; revert hr; cases hk : (T t).kind <;> first | exact absurd hk hkt | exact fun hh => hh
    obtain ⟨hid, hc⟩ := newE_inv hr'
    obtain ⟨i1, d1, a1, a2, a3, a4, a5, a6, _⟩ := hT.info hkt
    rw [hz] at a6
    cases hzz : i1.zero with
    | none => rw [hzz] at a6; cases a6
    | some zv =>
      rw [hzz] at a6
      simp only [Option.map_some, Option.some.injEq] at a6
      refine ⟨_, OpOK.of_run (by simp) fun M2 hM β Z a w hm hx => ?_, hc⟩
      have hid2 : M2 id = .none := by rw [hM id (by simp)]; exact hid
      obtain ⟨n1, n2, n3⟩ := new_box hm hid2 (cells := z) (c := zv.cells) (by rw [a6]; exact RL.zero) t
      refine ⟨_, w.alloc (.cells zv.cells t (0, 0)), _, Z, .inl ?_, n3, n1, n2, Wd.alloc _ _ _⟩
      simp [execOp, ho, Instr.alloc, run_zeroValue' a1 hzz, newVar, newRow]

theorem boxE_ok {id : Nat} {t : TypeId} {x : Operand} (ho : o.op = .box t x) : SOp P o ev M (R := R) (boxE M id (ev x)) := by
  intro c r hr
  unfold boxE at hr
  cases hcs : (ev x).cells? with
  | none => simp [hcs] at hr
  | some cs =>
    simp only [hcs] at hr
    obtain ⟨hid, hc⟩ := newE_inv hr
    refine ⟨_, OpOK.of_run (by simp) fun M2 hM β Z a w hm hx => ?_, hc⟩
    have hid2 : M2 id = .none := by rw [hM id (by simp)]; exact hid
    obtain ⟨n1, n2, n3⟩ := new_box hm hid2 (cells_ok hcs (hx x (by simp [ho, Op.operands]))) t
    refine ⟨_, w.alloc (.cells (a.eval x).cells t (0, 0)), _, Z, .inl ?_, n3, n1, n2, Wd.alloc _ _ _⟩
    simp [execOp, ho, Instr.box, newVar, newRow]

/-! ### Filling parts -/
theorem force1_eq (v : V) (k : V → Option R) : v.force1 k = k v := by cases v <;> rfl
theorem forceL1_eq : ∀ (l : List V) (k : List V → Option R), forceL1 l k = k l
  | [], _ => rfl
  | v :: r, k => by simp only [forceL1, force1_eq, forceL1_eq r]
theorem force2_eq (v : V) (k : V → Option R) : v.force2 k = k v := by cases v <;> simp only [V.force2, forceL1_eq, force1_eq]
theorem forceL2_eq : ∀ (l : List V) (k : List V → Option R), forceL2 l k = k l
  | [], _ => rfl
  | v :: r, k => by simp only [forceL2, force2_eq, forceL2_eq r]
theorem force_eq (v : V) (k : V → Option R) : v.force k = k v := by cases v <;> simp only [V.force, forceL2_eq, force2_eq]
theorem bforce_eq (b : Blk) (k : Blk → Option R) : b.force k = k b := by cases b <;> simp only [Blk.force, forceL2_eq]
theorem forceU_eq : ∀ (u : List (Nat × Blk)) (M : Mem) (k : Mem → Option R), forceU M u k = k (M.upds u)
  | [], _, _ => rfl
  | (b, x) :: r, M, k => by simp only [forceU, bforce_eq, forceU_eq r, Mem.upds]
theorem forceN_eq (n : Nat) (k : Nat → Option R) : forceN n k = k n := by cases n <;> rfl

theorem RL.setCells {c1 : List V} {v1 : List Value} {c2 : List V} {v2 : List Value} (h1 : RL β M2 Z h c1 v1) (j : Nat) (h2 : RL β M2 Z h c2 v2) :
    RL β M2 Z h (setCells c1 j c2) (v1.take j ++ (v2 ++ v1.drop (j + v2.length))) := by
  unfold Go.Pv.setCells
  rw [h2.1]
  exact (h1.take j).append (h2.append (h1.drop _))

theorem fill_one (off : Nat) : ∀ (vs : List Value) (k : Nat) (cs : Array Value), off + k + vs.length ≤ cs.size →
    ((vs.zipIdx k).foldl (fun cs (c, j) => cs.setIfInBounds (off + j) c) cs).toList = cs.toList.take (off + k) ++ (vs ++ cs.toList.drop (off + k + vs.length))
  | [], k, cs, _ => by simp
  | v :: r, k, cs, hl => by
    simp only [List.zipIdx_cons, List.foldl_cons]
    rw [fill_one off r (k + 1) _ (by simp at hl ⊢; omega)]
    simp only [List.length_cons] at hl
    simp only [Array.toList_setIfInBounds]
    apply List.ext_getElem?
    intro q
    have hcs : cs.toList.length = cs.size := Array.length_toList
    simp only [List.getElem?_append, List.length_take, List.getElem?_take, List.getElem?_set, List.length_set, List.length_cons, List.getElem?_drop, List.getElem?_cons, hcs]
    by_cases h1 : q < off + k
    · have : off + k ≠ q := by omega
      simp only [h1, show q < min (off + (k+1)) cs.size from by omega, show q < min (off + k) cs.size from by omega, show q < off + (k + 1) from by omega, if_true, this, if_false]
    · by_cases h2 : q = off + k
      · subst h2
        simp only [show off + k < min (off + (k+1)) cs.size from by omega, show ¬ off + k < min (off + k) cs.size from by omega, show off + k < off + (k + 1) from by omega, show off + k < cs.size from by omega, if_true, if_false,
          show off + k - min (off + k) cs.size = 0 from by omega, show 0 < r.length + 1 from by omega]
      · have e1 : min (off + (k + 1)) cs.size = off + (k + 1) := by omega
        have e2 : min (off + k) cs.size = off + k := by omega
        simp only [e1, e2, show ¬ q < off + (k + 1) from by omega, show ¬ q < off + k from by omega, if_false]
        by_cases h3 : q < off + k + 1 + r.length
        · simp only [show q - (off + (k + 1)) < r.length from by omega, show q - (off + k) < r.length + 1 from by omega, if_true, show q - (off + k) ≠ 0 from by omega, if_false]
          congr 1; try omega
        · simp only [show ¬ q - (off + (k + 1)) < r.length from by omega, show ¬ q - (off + k) < r.length + 1 from by omega, if_false, show off + k ≠ off + (k + 1) + r.length + (q - (off + (k + 1)) - r.length) from by omega]
          congr 1; try omega

/-- the abstract filling and the model's -/
theorem fillE_ok {place : Nat → Option (Nat × Nat)} {parts : List (Nat × Operand)} : ∀ {cells : List V} {k : List V → Option R} {r : R}, fillE place cells (parts.map fun p => (p.1, ev p.2)) k = some r →
    ∃ cells', k cells' = some r ∧ cells'.length = cells.length ∧ ∀ (β : Nat → Option Loc) (M2 : Mem) (Z : Nat → Prop) (h : Heap) (a : Act) (vc : Array Value), (∀ p ∈ parts, RV β M2 Z h (ev p.2) (a.eval p.2)) → RL β M2 Z h cells vc.toList →
      ∃ vc', Instr.fill place vc (parts.map fun p => (p.1, a.eval p.2)) = some vc' ∧ RL β M2 Z h cells' vc'.toList := by
  induction parts with
  | nil => intro cells k r hr; exact ⟨cells, hr, rfl, fun β M2 Z h a vc _ hl => ⟨vc, rfl, hl⟩⟩
  | cons p ps ih =>
    intro cells k r hr
    obtain ⟨i, x⟩ := p
    simp only [List.map_cons, fillE] at hr
    cases hp : place i with
    | none => simp [hp] at hr
    | some q =>
      obtain ⟨off, size⟩ := q
      simp only [hp] at hr
      cases hcs : (ev x).cells? with
      | none => simp [hcs] at hr
      | some cs =>
        simp only [hcs] at hr
        cases hb : (Nat.beq cs.length size && Nat.ble (off + size) cells.length) with
        | false => rw [hb] at hr; cases hr
        | true =>
          rw [hb] at hr
          simp only [cond_true, forceL2_eq] at hr
          simp only [Bool.and_eq_true] at hb
          have b1 := Nat.eq_of_beq_eq_true hb.1
          have b2 := Nat.le_of_ble_eq_true hb.2
          obtain ⟨cells', r1, r4, r5⟩ := ih hr
          refine ⟨cells', r1, ?_, fun β M2 Z h a vc hps hl => ?_⟩
          · rw [r4]; simp [Go.Pv.setCells]; omega
          have hv := cells_ok hcs (hps (i, x) (by simp))
          have hvl : (a.eval x).cells.size = size := by have := hv.1; simp at this; omega
          have hlen := hl.1
          simp at hlen
          have hfo : (((a.eval x).cells.zipIdx.foldl (fun cs (c, j) => cs.setIfInBounds (off + j) c) vc)).toList = vc.toList.take off ++ ((a.eval x).cells.toList ++ vc.toList.drop (off + (a.eval x).cells.toList.length)) := by
            rw [← Array.foldl_toList, Array.toList_zipIdx]
            have := fill_one off (a.eval x).cells.toList 0 vc (by simp; omega)
            simpa using this
          have hl2 := RL.setCells hl off hv
          rw [← hfo] at hl2
          obtain ⟨vc', r2, r3⟩ := r5 β M2 Z h a _ (fun p hp => hps p (by simp [hp])) hl2
          refine ⟨vc', ?_, r3⟩
          simp only [List.map_cons, Instr.fill, hp]
          rw [if_neg (by simp [hvl]; omega)]
          exact r2

/-- where the model puts the parts of an aggregate -/
theorem built_of (hT : TOK P T) {t : TypeId} (hag : (T t).kind.agg = true) (hf : fieldsOk T t = true) {i : TypeInfo} {z : Value} (hi : P.info? t = some i) (hz : i.zero = some z)
    {parts : List (Nat × Value)} {cells : Array Value} (h : Instr.fill (placeOf T t) z.cells parts = some cells) : P.built t parts = some cells := by
  have hk : (T t).kind ≠ .bad := fun hk => by rw [hk] at hag; cases hag
  obtain ⟨i', d, a1, a2, a3, _⟩ := hT.info hk
  rw [hi] at a1; cases a1
  have hpl : ∀ (p1 p2 : Nat → Option (Nat × Nat)), (∀ i r, p1 i = some r → p2 i = some r) → ∀ (parts : List (Nat × Value)) (c c' : Array Value), Instr.fill p1 c parts = some c' → Instr.fill p2 c parts = some c' := by
    intro p1 p2 hp parts
    induction parts with
    | nil => intro c c' hh; exact hh
    | cons q qs ih =>
      intro c c' hh
      obtain ⟨qi, qv⟩ := q
      simp only [Instr.fill] at hh ⊢
      cases h1 : p1 qi with
      | none => simp [h1] at hh
      | some r =>
        rw [hp _ _ h1]
        simp only [h1] at hh
        split at hh
        · cases hh
        · rename_i hn; simp only; rw [if_neg hn]; exact ih _ _ hh
  unfold Program.built
  rw [a3] at hag
  cases d <;> simp only [K.of, K.agg, Bool.false_eq_true] at hag
  case array n e =>
    have hke : (T e).kind ≠ .bad := fun hk => by
      unfold fieldsOk at hf; rw [a3] at hf; simp [K.of, hk] at hf
    obtain ⟨ie, de, hie, _⟩ := hT.info hke
    · 
      simp only [hi, a2, hz, hie]
      refine hpl _ _ ?_ _ _ _ h
      intro j r hr
      unfold placeOf at hr
      rw [a3] at hr
      simp only [K.of] at hr
      cases hlt : Nat.blt j n with
      | false => rw [hlt] at hr; cases hr
      | true =>
        rw [hlt] at hr
        simp only [cond_true] at hr
        obtain ⟨i2, d2, b1, b2, b3, b4, _⟩ := hT.info hke
        rw [hie] at b1; cases b1
        rw [← b4]; revert hr; cases hk : (T e).kind <;> first | exact absurd hk hke | exact id
  case struct fs =>
    have hall : ∀ f ∈ fs.toList, ∃ ie, P.info? f.type = some ie ∧ (T f.type).size = ie.size := by
      intro f hfm
      unfold fieldsOk at hf
      rw [a3] at hf
      simp only [K.of, List.all_map, List.all_eq_true] at hf
      have := hf f hfm
      have hkf : (T f.type).kind ≠ .bad := fun hk => by simp [hk] at this
      obtain ⟨i2, d2, b1, b2, b3, b4, _⟩ := hT.info hkf
      exact ⟨i2, b1, b4⟩
    have hmap : ∀ l : List Field, (∀ f ∈ l, ∃ ie, P.info? f.type = some ie ∧ (T f.type).size = ie.size) →
        l.mapM (fun f => (P.info? f.type).map fun i => (f.offset, i.size)) = some (l.map fun f => (f.offset, (T f.type).size)) := by
      intro l
      induction l with
      | nil => intro _; rfl
      | cons f l ih =>
        intro hl
        obtain ⟨ie, e1, e2⟩ := hl f (by simp)
        rw [List.mapM_cons, ih fun g hg => hl g (by simp [hg])]
        simp [e1, e2]
    simp only [hi, a2, hz, hmap _ hall]
    refine hpl _ _ ?_ _ _ _ h
    intro j r hr
    unfold placeOf at hr
    rw [a3] at hr
    simp only [K.of, List.getElem?_map, Array.getElem?_toList] at hr
    cases hfj : fs[j]? with
    | none => simp [hfj] at hr
    | some f =>
      simp only [hfj, Option.map_some] at hr
      have hkf : (T f.type).kind ≠ .bad := fun hk => by simp [hk] at hr
      have hr' : some (f.offset, (T f.type).size) = some r := by
        revert hr; cases hk : (T f.type).kind <;> first | exact absurd hk hkf | exact id
      simpa [hfj] using hr'

theorem buildE_ok (hT : TOK P T) {t : TypeId} {parts : Array (Nat × Operand)} (ho : o.op = .build t parts) :
    SOp P o ev M (R := R) (buildE T t (parts.toList.map fun p => (p.1, ev p.2))) := by
  intro c r hr
  unfold buildE at hr
  cases hz : (T t).zero with
  | none => simp [hz] at hr
  | some z =>
    simp only [hz] at hr
    cases hq : ((T t).kind.agg && fieldsOk T t) with
    | false => rw [hq] at hr; cases hr
    | true =>
      rw [hq] at hr
      simp only [cond_true] at hr
      obtain ⟨q1, q2⟩ := (Bool.and_eq_true _ _).mp hq
      have hkt : (T t).kind ≠ .bad := fun hk => by rw [hk] at q1; cases q1
      obtain ⟨i1, d1, a1, a2, a3, a4, a5, a6, _⟩ := hT.info hkt
      rw [hz] at a6
      cases hzz : i1.zero with
      | none => rw [hzz] at a6; cases a6
      | some zv =>
        rw [hzz] at a6
        simp only [Option.map_some, Option.some.injEq] at a6
        obtain ⟨cells', e1, _, e2⟩ := fillE_ok hr
        refine ⟨_, OpOK.pure rfl fun M2 hM β Z a w hm hx => ?_, e1⟩
        obtain ⟨vc', f1, f2⟩ := e2 β M2 Z w.heap a zv.cells (fun p hp => hx p.2 (by
          simp only [ho, Op.operands, List.mem_map]; exact ⟨p, hp, rfl⟩)) (by rw [a6]; exact RL.zero)
        have hb := built_of hT q1 q2 a1 hzz f1
        obtain ⟨g1, g2⟩ := f2.to_arr
        refine ⟨.agg vc', ?_, .agg _ _ g1 g2⟩
        have := run_build (P := P) w t (parts.map fun (i, x) => (i, a.eval x)) vc' (by rw [Array.toList_map]; exact hb)
        simp [execOp, ho, this]

end
end Go.Pv
/-! ### Stores. -/
namespace Go.Pv
section
variable {P : Program} {T : TypeId → TT} {o : Oper} {ev : Operand → V} {M : Mem} {R : Type}
variable {β : Nat → Option Loc} {M2 : Mem} {Z : Nat → Prop} {h : Heap} {w : World}

/-- where a store leads: a block that may be written -/
theorem run_storeAt {t : TypeId} {i : TypeInfo} (hi : P.info? t = some i) {w : World} {cb off : Nat} {c : Array Value} {Te : TypeId} (hc : w.heap[cb]? = some (.cells c Te (0, 0)))
    {v : Value} (hv : v.cells.size = i.size) (hs : off + i.size ≤ c.size) (h1 : ∀ u ∈ v.cells.toList, u.oneCell' = true) :
    (Instr.storeAt t (.pointer (some ⟨cb, off, none⟩)) v).run P w = .ok () (w.setRow cb (c.toList.take off ++ v.cells.toList ++ c.toList.drop (off + v.cells.toList.length)).toArray) := by
  have hst := run_storeCells_at P cb off Te v.cells.toList 0 c w hc (by simp; omega) h1
  simp only [Nat.add_zero] at hst
  simp [Instr.storeAt, Instr.sureAddr, storeVar, run_sizeOf' hi, hv, hst]

theorem sel_true (a b : V) : V.sel true a b = a := by
  cases a <;> cases b <;> simp only [V.sel, cond_true]
  rename_i k x k' y
  cases decide (k = k') <;> rfl
theorem sel_false (a b : V) : V.sel false a b = b := by
  cases a <;> cases b <;> simp only [V.sel, cond_false]
  rename_i k x k' y
  by_cases e : k = k'
  · subst e; simp
  · simp [e]

theorem setPick_inner (p : Nat) (q : Bool) (new : List V) (f : Nat → Nat) (hf : ∀ r, f r = p + r) : ∀ (m : Nat) (cs : List V), p + m ≤ cs.length → m ≤ new.length →
    (List.range m).foldl (fun cs r => cs.set (f r) (V.sel q (new.getD r .dead) (cs.getD (f r) .dead))) cs = if q then setCells cs p (new.take m) else cs := by
  intro m
  induction m with
  | zero => intro cs _ _; cases q <;> simp [setCells]
  | succ m ih =>
    intro cs h1 h2
    rw [List.range_succ, List.foldl_append, ih cs (by omega) (by omega)]
    simp only [List.foldl_cons, List.foldl_nil, hf]
    cases q
    · simp only [Bool.false_eq_true, if_false, sel_false]
      apply List.ext_getElem?
      intro k
      rw [List.getElem?_set]
      split
      · rename_i e; subst e
        rw [if_pos (by omega)]
        simp [List.getD, show p + m < cs.length from by omega]
      · rfl
    · simp only [if_true, sel_true]
      unfold setCells
      have hl : (new.take m).length = m := by simp; omega
      have hl' : (new.take (m + 1)).length = m + 1 := by simp; omega
      have hg : new.getD m V.dead = new[m] := by simp [List.getD, show m < new.length from by omega]
      rw [hl, hl', hg]
      apply List.ext_getElem?
      intro k
      rw [List.getElem?_set]
      simp only [List.length_append, List.length_take, List.length_drop, List.getElem?_append, List.getElem?_take, List.getElem?_drop]
      have e0 : min p cs.length = p := by omega
      have e1 : min m new.length = m := by omega
      have e2 : min (m + 1) new.length = m + 1 := by omega
      simp only [e0, e1, e2]
      by_cases hk : p + m = k
      · subst hk
        simp only [if_true, show ¬ p + m < p from by omega, if_false, show p + m - p = m from by omega, show m < m + 1 from by omega, show p + m < p + (m + (cs.length - (p + m))) from by omega]
        simp [show m < new.length from by omega]
      · simp only [hk, if_false]
        by_cases h3 : k < p
        · simp only [h3, if_true]
        · simp only [h3, if_false]
          by_cases h4 : k - p < m
          · simp only [h4, show k - p < m + 1 from by omega, if_true]
          · simp only [h4, show ¬ k - p < m + 1 from by omega, if_false]
            congr 1; omega

theorem setCells_length (cs : List V) (p : Nat) (new : List V) (h : p + new.length ≤ cs.length) : (setCells cs p new).length = cs.length := by
  unfold setCells; simp; omega

theorem setPick_eq {cells : List V} {j e n x oo : Nat} {new : List V} (hx : x < n) (ho : oo + new.length ≤ e) (hl : j + n * e ≤ cells.length) :
    setPick cells j e n x oo new = setCells cells (j + x * e + oo) new := by
  have key : ∀ m, m ≤ n → (List.range m).foldl (fun cs q => (List.range new.length).foldl (fun cs r =>
      cs.set (j + q * e + (oo + r)) (V.sel (Nat.beq x q) (new.getD r .dead) (cs.getD (j + q * e + (oo + r)) .dead))) cs) cells = if x < m then setCells cells (j + x * e + oo) new else cells := by
    intro m
    induction m with
    | zero => intro _; simp
    | succ m ih =>
      intro hm
      rw [List.range_succ, List.foldl_append, ih (by omega)]
      simp only [List.foldl_cons, List.foldl_nil]
      have hle := mul_le_of_lt (x := m) (n := n) (e := e) (by omega)
      have hle2 := mul_le_of_lt (x := x) (n := n) (e := e) hx
      have hlen : (if x < m then setCells cells (j + x * e + oo) new else cells).length = cells.length := by
        split
        · exact setCells_length _ _ _ (by omega)
        · rfl
      rw [setPick_inner (j + m * e + oo) (Nat.beq x m) new (fun r => j + m * e + (oo + r)) (fun r => by omega) new.length _ (by rw [hlen]; omega) (Nat.le_refl _)]
      by_cases hxm : x = m
      · subst hxm
        simp
      · have hb : Nat.beq x m = false := by
          cases e : Nat.beq x m with
          | false => rfl
          | true => exact absurd (Nat.eq_of_beq_eq_true e) hxm
        simp only [hb, Bool.false_eq_true, if_false]
        by_cases h3 : x < m
        · simp [h3, show x < m + 1 from by omega]
        · simp [h3, show ¬ x < m + 1 from by omega]
  have := key n (Nat.le_refl _)
  rw [if_pos hx] at this
  exact this

/-- writing cells into a box -/
theorem box_write (hm : RMem β M2 Z w.heap) {b : Nat} {cells : List V} (hb : M2 b = .box cells) {p : Nat} {new : List V} {nv : List Value} (hn : RL β M2 Z w.heap new nv) (hp : p + new.length ≤ cells.length)
    {cb : Nat} {c : Array Value} {Te : TypeId} (hβ : β b = some (.at cb 0 1 c.size)) (hc : w.heap[cb]? = some (.cells c Te (0, 0))) (hr : RL β M2 Z w.heap cells c.toList) :
    RMem β (M2.upd b (.box (setCells cells p new))) Z (w.setRow cb (c.toList.take p ++ nv ++ c.toList.drop (p + nv.length)).toArray).heap ∧
    Ev β M2 Z w.heap β (M2.upd b (.box (setCells cells p new))) Z (w.setRow cb (c.toList.take p ++ nv ++ c.toList.drop (p + nv.length)).toArray).heap := by
  have hlen := hr.1
  simp at hlen
  have hnl := hn.1
  have hsz : (w.setRow cb (c.toList.take p ++ nv ++ c.toList.drop (p + nv.length)).toArray).heap.size = w.heap.size := by simp [World.setRow]
  have hoth : ∀ x, Loc.blk? (β b) ≠ some x → (w.setRow cb (c.toList.take p ++ nv ++ c.toList.drop (p + nv.length)).toArray).heap[x]? = w.heap[x]? := by
    intro x hx
    rw [hβ] at hx
    exact setRow_other w cb x _ (fun e => hx (by simp [Loc.blk?, e]))
  have hgl : (Blk.box (setCells cells p new)).len = (M2 b).len := by simp only [hb, Blk.len]; exact setCells_length _ _ _ hp
  have hgen : (Blk.box (setCells cells p new)).gen = (M2 b).gen := by simp [hb, Blk.gen]
  have ho : (M2 b).own = true := by simp [hb, Blk.own]
  have hl : Loc.blk? (β b) = some cb ∨ β b = some .virt := .inl (by rw [hβ]; rfl)
  have hcnt : (Blk.box (setCells cells p new)).cnt = (M2 b).cnt := by simp [hb, Blk.cnt]
  have hbox : (Blk.box (setCells cells p new)).isBox = (M2 b).isBox := by simp [hb, Blk.isBox]
  have ev := wr_ev hm ho hl hgen hgl hcnt hbox hsz hoth
  refine ⟨wr_mem hm ho hl hgen hgl hcnt hbox hsz hoth ?_, ev⟩
  unfold RB
  simp only [upd_same]
  have h3 : (c.toList.take p ++ nv ++ c.toList.drop (p + nv.length)).toArray.size = c.size := by simp; omega
  refine ⟨cb, Te, _, by rw [hβ, h3], setRow_heap w cb c _ Te _ hc, ?_, ?_⟩
  · rw [h3, setCells_length _ _ _ hp]; omega
  · have := (RL.setCells hr p hn).mono ev.toGrow
    have h4 : RL β (M2.upd b (.box (setCells cells p new))) Z (w.setRow cb (c.toList.take p ++ nv ++ c.toList.drop (p + nv.length)).toArray).heap (setCells cells p new) (c.toList.take p ++ nv ++ c.toList.drop (p + nv.length)).toArray.toList := by
      simpa using this
    exact h4.to_arr.2

/-- writing cells into an element of a row -/
theorem row_write (hm : RMem β M2 Z w.heap) {b : Nat} {τ : Ty} {l : List τ.den} {g : Nat} (hb : M2 b = .row τ l g false) {i j : Nat} (hi : i < l.length) {nv : List Value} (hj : j + nv.length ≤ τ.size)
    {cb base : Nat} {c : Array Value} {Te : TypeId} (hβ : β b = some (.at cb base τ.size c.size)) (hc : w.heap[cb]? = some (.cells c Te (0, 0)))
    (hfit : base + l.length * τ.size ≤ c.size) (hr : ∀ i x, l[i]? = some x → RD w.heap Z τ x ((c.toList.drop (base + i * τ.size)).take τ.size))
    {y : τ.den} (hy : RD w.heap Z τ y (((c.toList.drop (base + i * τ.size)).take τ.size).take j ++ (nv ++ ((c.toList.drop (base + i * τ.size)).take τ.size).drop (j + nv.length)))) :
    RMem β (M2.upd b (.row τ (l.set i y) g false)) Z (w.setRow cb (c.toList.take (base + i * τ.size + j) ++ nv ++ c.toList.drop (base + i * τ.size + j + nv.length)).toArray).heap ∧
    Ev β M2 Z w.heap β (M2.upd b (.row τ (l.set i y) g false)) Z (w.setRow cb (c.toList.take (base + i * τ.size + j) ++ nv ++ c.toList.drop (base + i * τ.size + j + nv.length)).toArray).heap := by
  generalize hp : base + i * τ.size + j = p at *
  have hle := mul_le_of_lt (e := τ.size) hi
  have hsz : (w.setRow cb (c.toList.take p ++ nv ++ c.toList.drop (p + nv.length)).toArray).heap.size = w.heap.size := by simp [World.setRow]
  have hoth : ∀ x, Loc.blk? (β b) ≠ some x → (w.setRow cb (c.toList.take p ++ nv ++ c.toList.drop (p + nv.length)).toArray).heap[x]? = w.heap[x]? := by
    intro x hx
    rw [hβ] at hx
    exact setRow_other w cb x _ (fun e => hx (by simp [Loc.blk?, e]))
  have hgl : (Blk.row τ (l.set i y) g false).len = (M2 b).len := by simp [hb, Blk.len]
  have hgen : (Blk.row τ (l.set i y) g false).gen = (M2 b).gen := by simp [hb, Blk.gen]
  have ho : (M2 b).own = true := by simp [hb, Blk.own]
  have hl : Loc.blk? (β b) = some cb ∨ β b = some .virt := .inl (by rw [hβ]; rfl)
  have hcnt : (Blk.row τ (l.set i y) g false).cnt = (M2 b).cnt := by simp [hb, Blk.cnt]
  have hbox : (Blk.row τ (l.set i y) g false).isBox = (M2 b).isBox := by simp [hb, Blk.isBox]
  have ev := wr_ev hm ho hl hgen hgl hcnt hbox hsz hoth
  refine ⟨wr_mem hm ho hl hgen hgl hcnt hbox hsz hoth ?_, ev⟩
  unfold RB
  simp only [upd_same]
  have h3 : (c.toList.take p ++ nv ++ c.toList.drop (p + nv.length)).toArray.size = c.size := by simp; omega
  refine .inr ⟨cb, base, Te, _, (0, 0), by rw [hβ, h3], setRow_heap w cb c _ Te _ hc, by simp, by rw [h3]; simpa using hfit, ?_, by simp⟩
  intro k x hx
  rw [List.getElem?_set] at hx
  have hclen : c.toList.length = c.size := Array.length_toList
  split at hx
  · rename_i e
    subst e
    cases hx
    refine RD.mono ev.zkeep ev.zmono ?_
    refine (congrArg (RD w.heap Z τ y) ?_).mpr hy
    apply List.ext_getElem?
    intro q
    simp only [List.getElem?_take, List.getElem?_drop, List.getElem?_append, List.length_take, List.length_drop, List.length_append, hclen]
    have e1 : min p c.size = p := by omega
    have e2 : min j (min τ.size (c.size - (base + i * τ.size))) = j := by omega
    simp only [e1, e2]
    by_cases hq : q < τ.size
    · simp only [hq, if_true]
      by_cases h4 : q < j
      · simp only [h4, if_true, show base + i * τ.size + q < p + nv.length from by omega, show base + i * τ.size + q < p from by omega]
      · simp only [h4, if_false]
        by_cases h5 : q - j < nv.length
        · simp only [h5, if_true, show base + i * τ.size + q < p + nv.length from by omega, show ¬ base + i * τ.size + q < p from by omega, if_false]
          congr 1; omega
        · simp only [h5, if_false, show ¬ base + i * τ.size + q < p + nv.length from by omega]
          rw [if_pos (by omega)]
          congr 1; omega
    · simp only [hq, if_false]
      simp only [show ¬ q < j from by omega, if_false, show ¬ q - j < nv.length from by omega]
      rw [if_neg (by omega)]
  · rename_i hne
    have hk : k < l.length := (List.getElem?_eq_some_iff.1 hx).1
    refine RD.mono ev.zkeep ev.zmono ?_
    have h4 := hr k x hx
    refine (congrArg (RD w.heap Z τ x) ?_).mpr h4
    have hlek := mul_le_of_lt (e := τ.size) hk
    have hdis : (k + 1) * τ.size ≤ i * τ.size ∨ (i + 1) * τ.size ≤ k * τ.size := by
      rcases Nat.lt_or_gt_of_ne hne with h5 | h5
      · exact .inr (Nat.mul_le_mul_right _ h5)
      · exact .inl (Nat.mul_le_mul_right _ h5)
    rw [Nat.add_mul, Nat.add_mul] at hdis
    apply List.ext_getElem?
    intro q
    simp only [List.getElem?_take, List.getElem?_drop, List.getElem?_append, List.length_take, List.length_append, hclen]
    have e1 : min p c.size = p := by omega
    simp only [e1]
    by_cases hq : q < τ.size
    · simp only [hq, if_true]
      by_cases h5 : base + k * τ.size + q < p
      · simp only [h5, if_true, show base + k * τ.size + q < p + nv.length from by omega]
      · simp only [show ¬ base + k * τ.size + q < p + nv.length from by omega, if_false]
        congr 1; omega
    · simp only [hq, if_false]

theorem storeE_ok (hT : TOK P T) {t : TypeId} {x y : Operand} (ho : o.op = .store t x y) : SOp P o ev M (R := R) (storeE T M t (ev x) (ev y)) := by
  intro c r hr
  unfold storeE at hr
  have hkt : (T t).kind ≠ .bad := fun hk => by simp [hk] at hr
  obtain ⟨i1, d1, a1, a2, a3, a4, _⟩ := hT.info hkt
  cases hcs : (ev y).cells? with
  | none => revert hr; cases (T t).kind <;> simp [hcs]
  | some new =>
    have hr' : (bif Nat.beq new.length i1.size && new.all V.flat then
      match ev x with
      | .ptr b i j g => match M b with
        | .box cells => bif Nat.beq i 0 && Nat.beq g 0 && Nat.ble (j + i1.size) cells.length then c { val := .dead, upd := [(b, .box (setCells cells j new))], fp := [b] } else none
        | .row τ l g' ro => bif Nat.beq g g' && Nat.ble (j + i1.size) τ.size && !ro then
            match dec τ (setCells (enc τ (l.getD i τ.dflt)) j new) with
            | some (y, []) => c { val := .dead, upd := [(b, .row τ (l.set i y) g' ro)], fp := [b] }
            | _ => none
          else none
        | _ => none
      | .pa b j e n x o => match M b with
        | .box cells => bif Nat.ble (o + i1.size) e && Nat.ble (j + n * e) cells.length then c { val := .dead, upd := [(b, .box (setPick cells j e n x.toNat o new))], fp := [b] } else none
        | _ => none
      | _ => none
      else none) = some r := by
      rw [← a4]; rw [hcs] at hr; revert hr; cases hk : (T t).kind <;> first | exact absurd hk hkt | exact fun hh => hh
    clear hr
    cases hq : (Nat.beq new.length i1.size && new.all V.flat) with
    | false => rw [hq] at hr'; cases hr'
    | true =>
      rw [hq] at hr'
      simp only [cond_true] at hr'
      obtain ⟨q1, q2⟩ := (Bool.and_eq_true _ _).mp hq
      have q1' := Nat.eq_of_beq_eq_true q1
      -- what is stored
      have hnew : ∀ {β : Nat → Option Loc} {M2 : Mem} {Z : Nat → Prop} {h : Heap} {a : Act}, RV β M2 Z h (ev y) (a.eval y) → RL β M2 Z h new (a.eval y).cells.toList ∧ (a.eval y).cells.size = i1.size ∧ ∀ u ∈ (a.eval y).cells.toList, u.oneCell' = true := by
        intro β M2 Z h a hv
        have h1 := cells_ok hcs hv
        refine ⟨h1, ?_, flats_ok q2 h1⟩
        have := h1.1; simp at this; omega
      have fin : ∀ {a : Act} {w : World} {cb off : Nat} {c : Array Value} {Te : TypeId}, a.eval x = .pointer (some ⟨cb, off, none⟩) → w.heap[cb]? = some (.cells c Te (0, 0)) → (a.eval y).cells.size = i1.size → off + i1.size ≤ c.size →
          (∀ u ∈ (a.eval y).cells.toList, u.oneCell' = true) → (execOp a.eval o).run P w = .ok .skip (w.setRow cb (c.toList.take off ++ (a.eval y).cells.toList ++ c.toList.drop (off + (a.eval y).cells.toList.length)).toArray) := by
        intro a w cb off c Te e1 hc hv hs h1
        have := run_storeAt (P := P) a1 hc hv hs h1
        simp only [execOp, ho, e1, Sem.run_bind, this, Result.andThen_ok, Sem.run_pure]
      cases hx : ev x <;> simp only [hx, reduceCtorEq] at hr'
      case ptr b i j g =>
        cases hb : M b <;> simp only [hb, reduceCtorEq] at hr'
        case box cells =>
          cases hq : (Nat.beq i 0 && Nat.beq g 0 && Nat.ble (j + i1.size) cells.length) with
          | false => rw [hq] at hr'; cases hr'
          | true =>
            rw [hq] at hr'
            simp only [cond_true] at hr'
            simp only [Bool.and_eq_true] at hq
            have r2 := Nat.eq_of_beq_eq_true hq.1.2
            have r3 := Nat.le_of_ble_eq_true hq.2
            subst r2
            refine ⟨_, OpOK.of_run (by simp) fun M2 hM β Z a w hm hxs => ?_, hr'⟩
            have p1 := hxs x (by simp [ho, Op.operands])
            rw [hx] at p1
            obtain ⟨n1, n2, n3⟩ := hnew (hxs y (by simp [ho, Op.operands]))
            have hb2 : M2 b = .box cells := by rw [hM b (by simp)]; exact hb
            obtain ⟨hi, cb, base, sz, top, e1, e2⟩ := p1.ptr_inv (by simp [hb2, Blk.gen])
            obtain ⟨cb', Te, c', f1, f2, f3⟩ := hm.box hb2
            rw [f1] at e1
            simp only [Option.some.injEq, Loc.at.injEq] at e1
            obtain ⟨rfl, rfl, rfl, rfl⟩ := e1
            simp only [hb2, Blk.cnt] at hi
            obtain rfl : i = 0 := by omega
            have hlen := f3.1; simp at hlen
            have e2' : a.eval x = .pointer (some ⟨cb', j, none⟩) := by rw [e2]; simp
            obtain ⟨k1, k2⟩ := box_write hm hb2 n1 (p := j) (by omega) f1 f2 f3
            exact ⟨undef, _, β, Z, .inr ⟨fin e2' f2 n2 (by omega) n3, rfl⟩, .dead _, k1, k2, Wd.setRow _ _ _⟩
        case row τ l g' ro =>
          cases hq : (Nat.beq g g' && Nat.ble (j + i1.size) τ.size && !ro) with
          | false => rw [hq] at hr'; cases hr'
          | true =>
            rw [hq] at hr'
            simp only [cond_true] at hr'
            simp only [Bool.and_eq_true, Bool.not_eq_true'] at hq
            have r1 := Nat.eq_of_beq_eq_true hq.1.1
            have r2 := Nat.le_of_ble_eq_true hq.1.2
            have r3 := hq.2
            subst r1; subst r3
            split at hr'
            · rename_i yy hdec
              refine ⟨_, OpOK.of_run (by simp) fun M2 hM β Z a w hm hxs => ?_, hr'⟩
              have p1 := hxs x (by simp [ho, Op.operands])
              rw [hx] at p1
              obtain ⟨n1, n2, n3⟩ := hnew (hxs y (by simp [ho, Op.operands]))
              have hb2 : M2 b = .row τ l g false := by rw [hM b (by simp)]; exact hb
              obtain ⟨hi, cb, base, sz, top, e1, e2⟩ := p1.ptr_inv (by simp [hb2, Blk.gen])
              simp only [hb2, Blk.cnt] at hi
              rcases hm.row hb2 with ⟨rfl, _⟩ | ⟨cb', base', Te, c', fz, f1, f2, f3, f4, f5, f6⟩
              · simp at hi
              · rw [f1] at e1
                simp only [Option.some.injEq, Loc.at.injEq] at e1
                obtain ⟨rfl, rfl, rfl, rfl⟩ := e1
                have hfz := f3 rfl
                subst hfz
                have hgl : l.getD i τ.dflt = l[i] := by simp [List.getD, hi]
                rw [hgl] at hdec
                have hd0 := f5 i l[i] (by simp [hi])
                have hle := mul_le_of_lt (e := τ.size) hi
                have hw := (RL.setCells (RL.of_RD (β := β) (M2 := M2) hd0) j n1)
                have hnl := n1.1
                have hy := (dec_ok hdec hw).1
                have hlen : (List.take j (List.take τ.size (List.drop (base' + i * τ.size) c'.toList)) ++ ((a.eval y).cells.toList ++ List.drop (j + (a.eval y).cells.toList.length) (List.take τ.size (List.drop (base' + i * τ.size) c'.toList)))).length = τ.size := by
                  simp; simp at hnl; omega
                rw [List.take_of_length_le (by omega)] at hy
                obtain ⟨k1, k2⟩ := row_write hm hb2 hi (nv := (a.eval y).cells.toList) (by simp; omega) f1 f2 f4 f5 hy
                exact ⟨undef, _, β, Z, .inr ⟨fin e2 f2 n2 (by omega) n3, rfl⟩, .dead _, k1, k2, Wd.setRow _ _ _⟩
            · cases hr'
      case pa b j e n xx oo =>
        cases hb : M b <;> simp only [hb, reduceCtorEq] at hr'
        rename_i cells
        cases hq : (Nat.ble (oo + i1.size) e && Nat.ble (j + n * e) cells.length) with
        | false => rw [hq] at hr'; cases hr'
        | true =>
          rw [hq] at hr'
          simp only [cond_true] at hr'
          simp only [Bool.and_eq_true] at hq
          have r2 := Nat.le_of_ble_eq_true hq.1
          have r3 := Nat.le_of_ble_eq_true hq.2
          -- the index is in range wherever the address stands for one; else the effect says nothing
          by_cases hin : 0 ≤ xx ∧ xx < n
          · have hxn : xx.toNat < n := by omega
            rw [setPick_eq hxn (by omega) r3] at hr'
            refine ⟨_, OpOK.of_run (by simp) fun M2 hM β Z a w hm hxs => ?_, hr'⟩
            have p1 := hxs x (by simp [ho, Op.operands])
            rw [hx] at p1
            obtain ⟨n1, n2, n3⟩ := hnew (hxs y (by simp [ho, Op.operands]))
            have hb2 : M2 b = .box cells := by rw [hM b (by simp)]; exact hb
            obtain ⟨_, _, _, _, cb, base, sz, top, e1, e2⟩ := p1.pa_inv (by simp [hb2, Blk.gen])
            obtain ⟨cb', Te, c', f1, f2, f3⟩ := hm.box hb2
            rw [f1] at e1
            simp only [Option.some.injEq, Loc.at.injEq] at e1
            obtain ⟨rfl, rfl, rfl, rfl⟩ := e1
            have hlen := f3.1; simp at hlen
            have hle := mul_le_of_lt (e := e) hxn
            have e2' : a.eval x = .pointer (some ⟨cb', j + xx.toNat * e + oo, none⟩) := by rw [e2]; simp
            obtain ⟨k1, k2⟩ := box_write hm hb2 n1 (p := j + xx.toNat * e + oo) (by omega) f1 f2 f3
            exact ⟨undef, _, β, Z, .inr ⟨fin e2' f2 n2 (by omega) n3, rfl⟩, .dead _, k1, k2, Wd.setRow _ _ _⟩
          · refine ⟨_, OpOK.of_run (by simp) fun M2 hM β Z a w hm hxs => ?_, hr'⟩
            have p1 := hxs x (by simp [ho, Op.operands])
            rw [hx] at p1
            have hb2 : M2 b = .box cells := by rw [hM b (by simp)]; exact hb
            obtain ⟨z1, z2, _⟩ := p1.pa_inv (by simp [hb2, Blk.gen])
            exact absurd ⟨z1, z2⟩ hin

end
end Go.Pv
/-! ### Slices that are made: literals, make, append. -/
namespace Go.Pv
section
variable {P : Program} {T : TypeId → TT} {o : Oper} {ev : Operand → V} {M : Mem} {R : Type}
variable {β : Nat → Option Loc} {M2 : Mem} {Z : Nat → Prop} {h : Heap} {w : World}

theorem rowOf_spec (hT : TOK P T) {t : TypeId} {e : TypeId} {τ : Ty} {s : Nat} (h : rowOf T t = some (e, τ, s)) :
    ∃ ie, P.underlying t = some (.slice e) ∧ P.info? e = some ie ∧ ie.size = s ∧ τ.size = s ∧ ie.bytes ≤ 16384 ∧ 0 < s ∧ (T e).zero = ie.zero.map (fun z => z.cells.toList.map V.ofValue) ∧ ∃ z, ie.zero = some z ∧ z.cells.size = s := by
  unfold rowOf at h
  have hkt : (T t).kind ≠ .bad := fun hk => by simp [hk] at h
  obtain ⟨i1, d1, a1, a2, a3, _⟩ := hT.info hkt
  rw [a3] at h
  cases d1 <;> simp only [K.of, reduceCtorEq] at h
  rename_i e'
  cases hty : (T e').ty with
  | none => simp [hty] at h
  | some τ' =>
    simp only [hty] at h
    have hke : (T e').kind ≠ .bad := fun hk => by simp [hk] at h
    obtain ⟨ie, de, b1, b2, b3, b4, b5, b6, _⟩ := hT.info hke
    have h' : (bif Nat.beq (T e').size τ'.size && Nat.ble (T e').bytes 16384 && Nat.blt 0 (T e').size && zeroOk (T e') then some (e', τ', (T e').size) else none) = some (e, τ, s) := by
      revert h; cases hk : (T e').kind <;> first | exact absurd hk hke | exact fun hh => hh
    cases hq : (Nat.beq (T e').size τ'.size && Nat.ble (T e').bytes 16384 && Nat.blt 0 (T e').size && zeroOk (T e')) with
    | false => rw [hq] at h'; cases h'
    | true =>
      rw [hq] at h'
      simp only [cond_true, Option.some.injEq, Prod.mk.injEq] at h'
      obtain ⟨rfl, rfl, rfl⟩ := h'
      simp only [Bool.and_eq_true] at hq
      have q1 := Nat.eq_of_beq_eq_true hq.1.1.1
      have q2 := Nat.le_of_ble_eq_true hq.1.1.2
      have q3 : 0 < (T e').size := Nat.le_of_ble_eq_true hq.1.2
      refine ⟨ie, a2, b1, b4.symm, q1.symm, by rw [← b5]; exact q2, q3, b6, ?_⟩
      have q4 := hq.2
      unfold zeroOk at q4
      rw [b6] at q4
      cases hz : ie.zero with
      | none => rw [hz] at q4; simp at q4
      | some z =>
        rw [hz] at q4
        simp only [Option.map_some] at q4
        exact ⟨z, rfl, by simpa using Nat.eq_of_beq_eq_true q4⟩

/-- rows of cells and their data -/
theorem decN_ok {τ : Ty} : ∀ {n : Nat} {cs : List V} {l : List τ.den} {vs : List Value}, decN τ n cs = some l → RL β M2 Z h cs vs →
    l.length = n ∧ ∀ i x, l[i]? = some x → RD h Z τ x ((vs.drop (i * τ.size)).take τ.size)
  | 0, cs, l, vs, hd, hr => by
    cases cs <;> simp only [decN, Option.some.injEq, reduceCtorEq] at hd
    subst hd
    exact ⟨rfl, fun i x hx => by simp at hx⟩
  | n + 1, cs, l, vs, hd, hr => by
    simp only [decN] at hd
    cases h1 : dec τ cs with
    | none => simp [h1] at hd
    | some p =>
      obtain ⟨x, r⟩ := p
      simp only [h1] at hd
      cases h2 : decN τ n r with
      | none => simp [h2] at hd
      | some l' =>
        simp only [h2, Option.some.injEq] at hd
        subst hd
        obtain ⟨a1, a2⟩ := dec_ok h1 hr
        obtain ⟨b1, b2⟩ := decN_ok h2 a2
        refine ⟨by simp [b1], fun i y hy => ?_⟩
        cases i with
        | zero => simp at hy; subst hy; simpa using a1
        | succ i =>
          simp at hy
          have := b2 i y hy
          rw [List.drop_drop] at this
          rw [Nat.add_mul, Nat.one_mul, Nat.add_comm]; exact this

theorem flatten_replicate_zero (z : Array Value) (len : Nat) (_hz : 0 < z.size) : ((Array.range (len * z.size)).map (z[· % z.size]!)).toList = (List.replicate len z.toList).flatten := by
  induction len with
  | zero => simp
  | succ n ih =>
    rw [List.replicate_succ', List.flatten_append, ← ih]
    simp only [List.flatten_cons, List.flatten_nil, List.append_nil, Array.toList_map, Array.toList_range]
    rw [Nat.add_mul, Nat.one_mul, List.range_add, List.map_append]
    congr 1
    apply List.ext_getElem
    · simp
    · intro i h1 h2
      simp only [List.getElem_map, List.getElem_range, Array.getElem_toList]
      have hi : i < z.size := by simpa using h2
      have : (n * z.size + i) % z.size = i := by rw [Nat.mul_comm, Nat.mul_add_mod]; exact Nat.mod_eq_of_lt hi
      rw [this, getElem!_pos z i hi]

theorem RL.zeros {z : Value} : ∀ (n : Nat), RL β M2 Z h (List.replicate n (z.cells.toList.map V.ofValue)).flatten (List.replicate n z.cells.toList).flatten
  | 0 => by simpa using RL.nil
  | n + 1 => by
    simp only [List.replicate_succ, List.flatten_cons]
    exact RL.append RL.zero (RL.zeros n)

theorem buildSliceE_ok (hT : TOK P T) {id : Nat} {t : TypeId} {n : Nat} {parts : Array (Nat × Operand)} (ho : o.op = .buildSlice t n parts) :
    SOp P o ev M (R := R) (buildSliceE T M id t n (parts.toList.map fun p => (p.1, ev p.2))) := by
  intro c r hr
  unfold buildSliceE at hr
  cases hrow : rowOf T t with
  | none => simp [hrow] at hr
  | some q =>
    obtain ⟨e, τ, s⟩ := q
    simp only [hrow] at hr
    obtain ⟨ie, a1, a2, a3, a4, a5, a6, a7, _⟩ := rowOf_spec hT hrow
    cases hz : (T e).zero with
    | none => simp [hz] at hr
    | some z =>
      simp only [hz] at hr
      rw [hz] at a7
      cases hzz : ie.zero with
      | none => rw [hzz] at a7; cases a7
      | some zv =>
        rw [hzz] at a7
        simp only [Option.map_some, Option.some.injEq] at a7
        cases hq : (Nat.beq z.length s && Nat.ble (n * s) 16777216) with
        | false => rw [hq] at hr; cases hr
        | true =>
          rw [hq] at hr
          simp only [cond_true] at hr
          simp only [Bool.and_eq_true] at hq
          have q1 := Nat.eq_of_beq_eq_true hq.1
          have q2 := Nat.le_of_ble_eq_true hq.2
          obtain ⟨cells', e1, e0, e2⟩ := fillE_ok hr
          cases hdec : decN τ n cells' with
          | none => simp [hdec] at e1
          | some l =>
            simp only [hdec] at e1
            obtain ⟨hid, hc⟩ := newE_inv e1
            refine ⟨_, OpOK.of_run (by simp) fun M2 hM β Z a w hm hx => ?_, hc⟩
            have hid2 : M2 id = .none := by rw [hM id (by simp)]; exact hid
            have hzs : zv.cells.size = s := by rw [← q1, a7]; simp
            have hpx : ∀ p ∈ parts.toList, RV β M2 Z w.heap (ev p.2) (a.eval p.2) := fun p hp => hx p.2 (by
              simp only [ho, Op.operands, List.mem_map]; exact ⟨p, hp, rfl⟩)
            by_cases hn0 : n = 0
            · subst hn0
              -- an empty literal: no cells
              obtain ⟨vc', f1, f2⟩ := e2 β M2 Z w.heap a #[] hpx (by simpa using RL.nil)
              have hl := (decN_ok hdec f2).1
              have hl' : l = [] := List.eq_nil_of_length_eq_zero hl
              subst hl'
              have hv0 : vc'.size = 0 := by have := f2.1; simp at this; rw [← this, e0]; simp
              have hv0' : vc' = #[] := Array.eq_empty_of_size_eq_zero hv0
              subst hv0'
              obtain ⟨n1, n2, n3⟩ := new_row hm hid2 (τ := τ) (l := []) (c := #[]) (cap := 0) (by simp) (by simp) (fun i x hx => by simp at hx) e
              refine ⟨_, w.alloc (.cells #[] e (0, 0)), _, Z, .inl ?_, n3, n1, n2, Wd.alloc _ _ _⟩
              have f1' : Instr.fill (fun i => some (i * ie.size, ie.size)) #[] (parts.toList.map fun p => (p.1, a.eval p.2)) = some #[] := by rw [a3]; exact f1
              have f2' : Instr.fill (fun i => some (i * ie.size, ie.size)) (Array.map (fun _ => default) (Array.range 0)) (parts.toList.map fun p => (p.1, a.eval p.2)) = some #[] := by
                rw [show Array.map (fun (_ : Nat) => (default : Value)) (Array.range 0) = #[] from by apply Array.ext'; simp]; exact f1'
              simp [execOp, ho, Instr.buildSlice, run_underlying a1, run_sizeOf' a2, newRow]
              rw [f2']; simp
            · obtain ⟨vc', f1, f2⟩ := e2 β M2 Z w.heap a ((Array.range (n * ie.size)).map (zv.cells[· % zv.cells.size]!)) hpx (by
                rw [a3, ← hzs, flatten_replicate_zero zv.cells n (by omega), a7]; exact RL.zeros n)
              have hd := decN_ok hdec f2
              have hv : vc'.size = n * s := by have := f2.1; simp at this; rw [← this, e0]; simp [q1]
              obtain ⟨n1, n2, n3⟩ := new_row hm hid2 (τ := τ) (l := l) (c := vc') (cap := n) (by rw [hv, a4]) (by omega) hd.2 e
              rw [hd.1] at n3
              refine ⟨_, w.alloc (.cells vc' e (0, 0)), _, Z, .inl ?_, n3, n1, n2, Wd.alloc _ _ _⟩
              have hb := run_buildSlice (P := P) w t e n (parts.map fun (i, x) => (i, a.eval x)) vc' ie zv a1 a2 hzz (by rw [a3]; omega) (by rw [a3]; exact Nat.mul_ne_zero hn0 (by omega)) (by
                rw [Array.toList_map]; rw [a3]; rw [a3] at f1; exact f1)
              simp only [execOp, ho, Sem.run_bind]
              rw [hb]; rfl

theorem makeSliceE_ok (hT : TOK P T) {id : Nat} {t : TypeId} {x y : Operand} (ho : o.op = .makeSlice t x y) : SOp P o ev M (R := R) (makeSliceE T M id t (ev x) (ev y)) := by
  intro c r hr
  unfold makeSliceE at hr
  cases hrow : rowOf T t with
  | none => simp [hrow] at hr
  | some q =>
    obtain ⟨e, τ, s⟩ := q
    obtain ⟨ie, a1, a2, a3, a4, a5, a6, a7, _⟩ := rowOf_spec hT hrow
    cases hx : ev x <;> cases hy : ev y <;> simp only [hrow, hx, hy, reduceCtorEq] at hr
    rename_i k n k' m
    cases hz : (T e).zero with
    | none => simp [hz] at hr
    | some z =>
      simp only [hz] at hr
      rw [hz] at a7
      cases hzz : ie.zero with
      | none => rw [hzz] at a7; cases a7
      | some zv =>
        rw [hzz] at a7
        simp only [Option.map_some, Option.some.injEq] at a7
        split at hr
        · rename_i x0 hdec
          cases hq : (Nat.beq z.length s) with
          | false => rw [hq] at hr; cases hr
          | true =>
            rw [hq] at hr
            simp only [cond_true] at hr
            have q1 := Nat.eq_of_beq_eq_true hq
            cases hb : (decide (0 ≤ n) && decide (n ≤ m) && decide (m ≤ (maxRow : Int))) with
            | false => rw [hb] at hr; cases hr
            | true =>
              rw [hb] at hr
              simp only [cond_true] at hr
              simp only [Bool.and_eq_true, decide_eq_true_eq] at hb
              obtain ⟨⟨b1, b2⟩, b3⟩ := hb
              have b3' : m ≤ 1000000000 := by simpa [maxRow] using b3
              obtain ⟨hid, hc⟩ := newE_inv hr
              refine ⟨_, OpOK.of_run (by simp) fun M2 hM β Z a w hm hxs => ?_, hc⟩
              have hid2 : M2 id = .none := by rw [hM id (by simp)]; exact hid
              have p1 := hxs x (by simp [ho, Op.operands])
              have p2 := hxs y (by simp [ho, Op.operands])
              rw [hx] at p1; rw [hy] at p2
              have hzs : zv.cells.size = s := by rw [← q1, a7]; simp
              have hzRD : RD w.heap Z τ x0 zv.cells.toList := by
                have := (dec_ok hdec (show RL β M2 Z w.heap z zv.cells.toList by rw [a7]; exact RL.zero)).1
                rwa [List.take_of_length_le (by simp; omega)] at this
              have hcells := flatten_replicate_zero zv.cells m.toNat (by omega)
              have hsize : ((Array.range (m.toNat * zv.cells.size)).map (zv.cells[· % zv.cells.size]!)).size = m.toNat * s := by simp [hzs]
              obtain ⟨n1, n2, n3⟩ := new_row hm hid2 (τ := τ) (l := List.replicate n.toNat x0) (c := (Array.range (m.toNat * zv.cells.size)).map (zv.cells[· % zv.cells.size]!)) (cap := m.toNat) (by rw [hsize, a4]) (by simp; omega)
                (fun i x hx => by
                  have hi : i < n.toNat := by have := (List.getElem?_eq_some_iff.1 hx).1; simpa using this
                  have hxe : x = x0 := by
                    rw [List.getElem?_replicate, if_pos hi] at hx; simpa using hx.symm
                  subst hxe
                  rw [hcells]
                  have hdt : ∀ (k i : Nat), i < k → ((List.replicate k zv.cells.toList).flatten.drop (i * τ.size)).take τ.size = zv.cells.toList := by
                    intro k
                    induction k with
                    | zero => intro i hi; omega
                    | succ k ih =>
                      intro i hi
                      rw [List.replicate_succ, List.flatten_cons]
                      cases i with
                      | zero =>
                        rw [Nat.zero_mul, List.drop_zero, List.take_append_of_le_length (by simp; omega), List.take_of_length_le (by simp; omega)]
                      | succ i =>
                        have e : (i + 1) * τ.size = zv.cells.toList.length + i * τ.size := by rw [Nat.add_mul, Nat.one_mul]; simp; omega
                        rw [e, List.drop_append, List.drop_of_length_le (by simp), List.nil_append]
                        simp only [Nat.add_sub_cancel_left]
                        exact ih i (by omega)
                  rw [hdt m.toNat i (by omega)]
                  exact hzRD) e
              refine ⟨_, w.alloc (.cells ((Array.range (m.toNat * zv.cells.size)).map (zv.cells[· % zv.cells.size]!)) e (0, 0)), _, Z, .inl ?_, n3, n1, n2, Wd.alloc _ _ _⟩
              have w1 : IntKind.i64.wrap n = n := IntWalk.i64_in _ (by omega)
              have w2 : IntKind.i64.wrap m = m := IntWalk.i64_in _ (by omega)
              have hby : (ie.bytes : Int) * m ≤ 281474976710656 := by
                have h1 : (ie.bytes : Int) ≤ 16384 := by omega
                have h2 : (ie.bytes : Int) * m ≤ 16384 * 1000000000 := Int.mul_le_mul h1 b3' (by omega) (by omega)
                omega
              have t1 : ¬ (m < 0 ∨ (281474976710656 : Int) < ie.bytes * m) := by omega
              have hlen : (List.replicate n.toNat x0).length = n.toNat := by simp
              rw [hlen]
              have hm0 : m.toNat * ie.size = m.toNat * zv.cells.size := by rw [a3, hzs]
              simp only [execOp, ho, Sem.run_bind, Instr.makeSlice, run_underlying a1, Result.andThen_ok, p1.int_inv, p2.int_inv, asInt, asIntOf, Sem.run_pure, run_typeInfo _ a2, w1, w2]
              rw [if_neg (by simp; omega)]
              simp only [Sem.run_bind, run_askRoom, Result.andThen_ok, run_sizeOf' a2]
              by_cases hz0 : m.toNat * ie.size = 0
              · have e0 : m.toNat * zv.cells.size = 0 := by rw [← hm0]; exact hz0
                rw [if_pos hz0, hz0, e0]
                have er : ∀ f : Nat → Value, (Array.range 0).map f = #[] := fun f => by apply Array.ext'; simp
                simp only [Sem.run_pure, Result.andThen_ok, newRow, Sem.run_bind, run_newObj_alloc, er]
              · rw [if_neg hz0, hm0]
                simp only [Sem.run_bind, run_zeroValue' a2 hzz, Sem.run_pure, Result.andThen_ok, newRow, run_newObj_alloc]
        · cases hr

end
end Go.Pv
