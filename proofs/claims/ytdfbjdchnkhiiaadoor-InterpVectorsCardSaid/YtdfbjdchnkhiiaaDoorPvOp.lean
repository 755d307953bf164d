/-
  The abstract run of one operation, in continuation-passing form.
-/
import Derived.Test.YtdfbjdchnkhiiaaDoorPvType
namespace Go.Pv

/-- What a call may come to: an answer that may be none, and what the call does for each. -/
structure CR where
  Y : Type
  val : Option Y
  eff : Y → Eff

def V.cells? : V → Option (List V)
  | .agg cs => some cs
  | .tup _ => none
  | .dead => none
  | v => some [v]

def V.sel (c : Bool) (a b : V) : V :=
  match a, b with
  | .int k x, .int k' y => bif decide (k = k') then .int k (bif c then x else y) else bif c then a else b
  | .bool x, .bool y => .bool (bif c then x else y)
  | .str x, .str y => .str (bif c then x else y)
  | _, _ => bif c then a else b

/-- all whole numbers of one kind -/
def ints? (k : IntKind) : List V → Option (List Int)
  | [] => some []
  | .int k' n :: r => bif decide (k' = k) then (match ints? k r with | some l => some (n :: l) | none => none) else none
  | _ => none

def bools? : List V → Option (List Bool)
  | [] => some []
  | .bool b :: r => (match bools? r with | some l => some (b :: l) | none => none)
  | _ => none

def strs? : List V → Option (List ByteArray)
  | [] => some []
  | .str b :: r => (match strs? r with | some l => some (b :: l) | none => none)
  | _ => none

/-- element x of a column -/
def V.at (x : Nat) (col : List V) : V :=
  match col with
  | .int k _ :: _ => match ints? k col with
    | some l => .int k (l.getD x 0)
    | none => col.getD x .dead
  | .bool _ :: _ => match bools? col with
    | some l => .bool (l.getD x false)
    | none => col.getD x .dead
  | .str _ :: _ => match strs? col with
    | some l => .str (l.getD x ⟨#[]⟩)
    | none => col.getD x .dead
  | _ => col.getD x .dead

/-- s cells of element x, from its cell o on, of an array with n elements of e cells at cell j -/
def pick (cells : List V) (j e n : Nat) (x : Nat) (o s : Nat) : List V :=
  (List.range s).map fun r => V.at x ((List.range n).map fun q => cells.getD (j + q * e + (o + r)) .dead)

/-- new cells over the old ones from j on -/
def setCells (cells : List V) (j : Nat) (new : List V) : List V := cells.take j ++ (new ++ cells.drop (j + new.length))

/-- may be stored in one cell -/
def V.flat : V → Bool
  | .dead => false
  | .agg _ => false
  | .tup _ => false
  | _ => true

/-- the same at element x of an array -/
def setPick (cells : List V) (j e n : Nat) (x : Nat) (o : Nat) (new : List V) : List V :=
  (List.range n).foldl (fun cs q => (List.range new.length).foldl (fun cs r =>
    cs.set (j + q * e + (o + r)) (V.sel (Nat.beq x q) (new.getD r .dead) (cs.getD (j + q * e + (o + r)) .dead))) cs) cells

/-- a value as an aggregate's or a variable's content -/
def mkv (agg : Bool) (cells : List V) : V := bif agg then .agg cells else cells.headD .dead

/-- the content of a slice of a row -/
def cut {α : Type} (l : List α) (i : Nat) (m : Option Nat) : List α :=
  match m with
  | none => l.drop i
  | some m => (l.drop i).take m

/-- a live slice becomes frozen data; the row may be written no more -/
def frz (M : Mem) : V → V × List (Nat × Blk)
  | .sl b i m g => match M b with
    | .row τ l g' _ => bif Nat.beq g g' then (.fz τ (cut l i m), [(b, .row τ l g' true)]) else (.dead, [])
    | _ => (.dead, [])
  | v => (v, [])

def decN (τ : Ty) : Nat → List V → Option (List τ.den)
  | 0, [] => some []
  | 0, _ => none
  | n + 1, cs => match dec τ cs with
    | some (x, r) => match decN τ n r with
      | some l => some (x :: l)
      | none => none
    | none => none

/-- the operand's abstract value -/
def evO (ρ : Nat → V) : Operand → V
  | .tmp t => ρ t
  | .const v => V.ofValue v
  | .func f => .fn f []
  | .global g => match globTab g with
    | some ⟨τ, x⟩ => .fp τ [x] 0 0
    | none => .dead

section
variable {R : Type}

def binInt (op : BinOp) (k : IntKind) (a b : Int) (c : Eff → Option R) : Option R :=
  match op with
  | .add => c { val := .int k (k.wrap (a + b)) }
  | .sub => c { val := .int k (k.wrap (a - b)) }
  | .mul => c { val := .int k (k.wrap (a * b)) }
  | .quo => bif decide (b = 0) then none else c { val := .int k (k.wrap (a.tdiv b)) }
  | .rem => bif decide (b = 0) then none else c { val := .int k (a.tmod b) }
  | .and => c { val := .int k (k.wrap (BitVec.ofInt k.bits a &&& BitVec.ofInt k.bits b).toNat) }
  | .or => c { val := .int k (k.wrap (BitVec.ofInt k.bits a ||| BitVec.ofInt k.bits b).toNat) }
  | .xor => c { val := .int k (k.wrap (BitVec.ofInt k.bits a ^^^ BitVec.ofInt k.bits b).toNat) }
  | .andNot => c { val := .int k (k.wrap (BitVec.ofInt k.bits a &&& ~~~BitVec.ofInt k.bits b).toNat) }
  | .eql => c { val := .bool (a == b) }
  | .neq => c { val := .bool (a != b) }
  | .lss => c { val := .bool (decide (a < b)) }
  | .leq => c { val := .bool (decide (a ≤ b)) }
  | .gtr => c { val := .bool (decide (a > b)) }
  | .geq => c { val := .bool (decide (a ≥ b)) }
  | _ => none

def binStr (op : BinOp) (a b : ByteArray) (c : Eff → Option R) : Option R :=
  match op with
  | .add => bif decide (((a.size + b.size : Nat) : Int) > IntKind.i64.max) then none else c { val := .str (a ++ b) }
  | .eql => c { val := .bool (a.toList == b.toList) }
  | .neq => c { val := .bool !(a.toList == b.toList) }
  | .lss => c { val := .bool (Op.bytesLess a.toList b.toList) }
  | .leq => c { val := .bool (Op.bytesLess a.toList b.toList || a.toList == b.toList) }
  | .gtr => c { val := .bool !(Op.bytesLess a.toList b.toList || a.toList == b.toList) }
  | .geq => c { val := .bool !(Op.bytesLess a.toList b.toList) }
  | _ => none

/-- are two values of a type equal? by the type's shape; none where it cannot be told -/
def eqE (T : TypeId → TT) : Nat → TypeId → List V → List V → Option Bool
  | 0, _, _, _ => none
  | n + 1, t, xs, ys =>
    match (T t).kind with
    | .bool => match xs, ys with
      | [.bool a], [.bool b] => some (a == b)
      | _, _ => none
    | .int _ => match xs, ys with
      | [.int k a], [.int k' b] => bif decide (k = k') then some (a == b) else none
      | _, _ => none
    | .str => match xs, ys with
      | [.str a], [.str b] => some (a.toList == b.toList)
      | _, _ => none
    | .struct fs => bif (T t).eqok then eqFs (eqE T n) T xs ys fs else none
    | .array len e => match (T e).kind with
      | .bad => none
      | _ => eqIs (eqE T n e) (T e).size xs ys len 0
    | _ => none
where
  eqFs (rec_ : TypeId → List V → List V → Option Bool) (T : TypeId → TT) (xs ys : List V) : List Fd → Option Bool
    | [] => some true
    | f :: fs => bif f.blank then none else
      match rec_ f.type ((xs.drop f.off).take (T f.type).size) ((ys.drop f.off).take (T f.type).size) with
        | some b => match eqFs rec_ T xs ys fs with
          | some c => some (b && c)
          | none => none
        | none => none
  eqIs (rec_ : List V → List V → Option Bool) (s : Nat) (xs ys : List V) : Nat → Nat → Option Bool
    | 0, _ => some true
    | n + 1, i => match rec_ ((xs.drop (i * s)).take s) ((ys.drop (i * s)).take s) with
      | some b => match eqIs rec_ s xs ys n (i + 1) with
        | some c => some (b && c)
        | none => none
      | none => none

def binE (T : TypeId → TT) (op : BinOp) (t : TypeId) (x y : V) (c : Eff → Option R) : Option R :=
  match x, y with
  | .int k a, .int k' b =>
    match op with
    | .shl => bif decide (b < 0) then none else c { val := .int k (k.wrap (a * 2 ^ (min b.toNat k.bits))) }
    | .shr => bif decide (b < 0) then none else c { val := .int k (a.fdiv (2 ^ (min b.toNat k.bits))) }
    | op => bif decide (k = k') then binInt op k a b c else none
  | .str a, .str b => binStr op a b c
  | .bool a, .bool b =>
    match (T t).kind with
    | .bool => match op with
      | .eql => c { val := .bool (a == b) }
      | .neq => c { val := .bool (!(a == b)) }
      | _ => none
    | _ => none
  | .agg xs, .agg ys =>
    bif (T t).eqok && (T t).kind.agg then (match eqE T 12 t xs ys with
    | some b => match op with
      | .eql => c { val := .bool b }
      | .neq => c { val := .bool (!b) }
      | _ => none
    | none => none) else none
  | _, _ => none

def unE (op : UnOp) (x : V) (c : Eff → Option R) : Option R :=
  match op, x with
  | .neg, .int k n => c { val := .int k (k.wrap (0 - n)) }
  | .xor, .int k n => c { val := .int k (k.wrap (BitVec.ofInt k.bits (if k.signed then -1 else k.max) ^^^ BitVec.ofInt k.bits n).toNat) }
  | .not, .bool b => c { val := .bool (!b) }
  | _, _ => none

def convE (T : TypeId → TT) (src dst : TypeId) (x : V) (c : Eff → Option R) : Option R :=
  match (T src).kind with
  | .bad => none
  | _ => match (T dst).kind, x with
    | .int k, .int _ n => c { val := .int k (k.wrap n) }
    | .str, .str s => c { val := .str s }
    | _, _ => none

/-! ### Forcing: what is handed on is written out -/
def V.force1 (v : V) (k : V → Option R) : Option R :=
  match v with
  | .dead => k .dead
  | .bool b => k (.bool b)
  | .int a b => k (.int a b)
  | .str s => k (.str s)
  | .nils => k .nils
  | .nilp => k .nilp
  | .nilf => k .nilf
  | .nilm => k .nilm
  | .ptr a b c d => k (.ptr a b c d)
  | .pa a b c d e f => k (.pa a b c d e f)
  | .sl a b c d => k (.sl a b c d)
  | .sb a b c d => k (.sb a b c d)
  | .fz a b => k (.fz a b)
  | .fp a b c d => k (.fp a b c d)
  | .fn a b => k (.fn a b)
  | .agg a => k (.agg a)
  | .tup a => k (.tup a)

def forceL1 : List V → (List V → Option R) → Option R
  | [], k => k []
  | v :: r, k => v.force1 fun v => forceL1 r fun r => k (v :: r)

def V.force2 (v : V) (k : V → Option R) : Option R :=
  match v with
  | .agg a => forceL1 a fun a => k (.agg a)
  | .fn f a => forceL1 a fun a => k (.fn f a)
  | v => v.force1 k

def forceL2 : List V → (List V → Option R) → Option R
  | [], k => k []
  | v :: r, k => v.force2 fun v => forceL2 r fun r => k (v :: r)

def V.force (v : V) (k : V → Option R) : Option R :=
  match v with
  | .tup a => forceL2 a fun a => k (.tup a)
  | v => v.force2 k

def Blk.force (b : Blk) (k : Blk → Option R) : Option R :=
  match b with
  | .none => k .none
  | .dead => k .dead
  | .box cells => forceL2 cells fun cells => k (.box cells)
  | .row τ l g ro => k (.row τ l g ro)

def forceU (M : Mem) : List (Nat × Blk) → (Mem → Option R) → Option R
  | [], k => k M
  | (b, x) :: r, k => x.force fun x => forceU (M.upd b x) r k

def forceN (n : Nat) (k : Nat → Option R) : Option R :=
  match n with
  | 0 => k 0
  | m + 1 => k (m + 1)

/-- fill parts into cells -/
def fillE (place : Nat → Option (Nat × Nat)) (cells : List V) : List (Nat × V) → (List V → Option R) → Option R
  | [], k => k cells
  | (i, v) :: r, k => match place i with
    | some (off, size) => match v.cells? with
      | some cs => bif Nat.beq cs.length size && Nat.ble (off + size) cells.length then forceL2 (setCells cells off cs) fun cells => fillE place cells r k else none
      | none => none
    | none => none

/-- where a part of a struct or an array lies, its size -/
def placeOf (T : TypeId → TT) (t : TypeId) (i : Nat) : Option (Nat × Nat) :=
  match (T t).kind with
  | .struct fs => match fs[i]? with
    | some f => match (T f.type).kind with
      | .bad => none
      | _ => some (f.off, (T f.type).size)
    | none => none
  | .array n e => bif Nat.blt i n then (match (T e).kind with
      | .bad => none
      | _ => some (i * (T e).size, (T e).size)) else none
  | _ => none

def loadE (T : TypeId → TT) (M : Mem) (t : TypeId) (a : V) (c : Eff → Option R) : Option R :=
  match (T t).kind with
  | .bad => none
  | _ => let s := (T t).size
    bif (T t).kind.agg || Nat.beq s 1 then
    match a with
    | .ptr b i j g => match M b with
      | .box cells => bif Nat.beq i 0 && Nat.beq g 0 && Nat.ble (j + s) cells.length then c { val := mkv ((T t).kind.agg) ((cells.drop j).take s), fp := [b] } else none
      | .row τ l g' _ => bif Nat.beq g g' && Nat.ble (j + s) τ.size then c { val := mkv ((T t).kind.agg) (((enc τ (l.getD i τ.dflt)).drop j).take s), fp := [b] } else none
      | _ => none
    | .pa b j e n x o => match M b with
      | .box cells => bif Nat.ble (o + s) e && Nat.ble (j + n * e) cells.length then c { val := mkv ((T t).kind.agg) (pick cells j e n x.toNat o s), fp := [b] } else none
      | _ => none
    | .fp τ l i j => bif Nat.ble (j + s) τ.size then c { val := mkv ((T t).kind.agg) (((enc τ (l.getD i τ.dflt)).drop j).take s) } else none
    | _ => none
    else none

def storeE (T : TypeId → TT) (M : Mem) (t : TypeId) (a x : V) (c : Eff → Option R) : Option R :=
  match (T t).kind, x.cells? with
  | .bad, _ => none
  | _, some new => let s := (T t).size
    bif Nat.beq new.length s && new.all V.flat then
    match a with
    | .ptr b i j g => match M b with
      | .box cells => bif Nat.beq i 0 && Nat.beq g 0 && Nat.ble (j + s) cells.length then c { val := .dead, upd := [(b, .box (setCells cells j new))], fp := [b] } else none
      | .row τ l g' ro => bif Nat.beq g g' && Nat.ble (j + s) τ.size && !ro then
          match dec τ (setCells (enc τ (l.getD i τ.dflt)) j new) with
          | some (y, []) => c { val := .dead, upd := [(b, .row τ (l.set i y) g' ro)], fp := [b] }
          | _ => none
        else none
      | _ => none
    | .pa b j e n x o => match M b with
      | .box cells => bif Nat.ble (o + s) e && Nat.ble (j + n * e) cells.length then c { val := .dead, upd := [(b, .box (setPick cells j e n x.toNat o new))], fp := [b] } else none
      | _ => none
    | _ => none
    else none
  | _, _ => none

def isStruct (T : TypeId → TT) (s : TypeId) (f : Nat) : Option (Nat × Nat) :=
  match (T s).kind with
  | .struct fs => match fs[f]? with
    | some q => match (T q.type).kind with
      | .bad => none
      | _ => bif Nat.beq (T q.type).size 0 then none else some (q.off, (T q.type).size)
    | none => none
  | _ => none

/-- an address that holds -/
def validP (M : Mem) : V → Bool
  | .ptr b _ _ g => match M b with
    | .box _ => Nat.beq g 0
    | .row _ _ g' _ => Nat.beq g g'
    | _ => false
  | .pa b _ _ _ _ _ => match M b with
    | .box _ => true
    | _ => false
  | .fp _ _ _ _ => true
  | _ => false

def fpOf : V → List Nat
  | .ptr b _ _ _ => [b]
  | .pa b _ _ _ _ _ => [b]
  | _ => []

/-- n cells further -/
def V.plus (a : V) (n : Nat) : V :=
  match a with
  | .ptr b i j g => .ptr b i (j + n) g
  | .pa b j e m x o => .pa b j e m x (o + n)
  | .fp τ l i j => .fp τ l i (j + n)
  | _ => .dead

def fieldAddrE (T : TypeId → TT) (M : Mem) (s : TypeId) (a : V) (f : Nat) (c : Eff → Option R) : Option R :=
  match isStruct T s f with
  | some (off, _) => bif validP M a then c { val := a.plus off, fp := fpOf a } else none
  | none => none

def fieldE (T : TypeId → TT) (s : TypeId) (x : V) (f : Nat) (c : Eff → Option R) : Option R :=
  match (T s).kind, x with
  | .struct fs, .agg cs => match fs[f]? with
    | some q => match (T q.type).kind with
      | .bad => none
      | k => let z := (T q.type).size
        bif Nat.ble (q.off + z) cs.length && (k.agg || Nat.beq z 1) then c { val := mkv k.agg ((cs.drop q.off).take z) } else none
    | none => none
  | _, _ => none

def inRange (x : Int) (n : Nat) : Bool := decide (0 ≤ x) && decide (x < n)

def lenOf {α : Type} (l : List α) (i : Nat) (m : Option Nat) : Nat :=
  match m with
  | none => l.length - i
  | some m => m

/-- the element x of an array at an address -/
def elemE (M : Mem) (a : V) (n s : Nat) (x : Int) : Option V :=
  match a with
  | .ptr b i j g => match M b with
    | .box cells => bif Nat.beq i 0 && Nat.ble (j + n * s) cells.length then some (.pa b j s n x 0) else none
    | _ => some (.ptr b i (j + x.toNat * s) g)
  | .pa b j e m y o => some (.pa b j e m y (o + x.toNat * s))
  | .fp τ l i j => some (.fp τ l i (j + x.toNat * s))
  | _ => none

def indexAddrE (T : TypeId → TT) (M : Mem) (t : TypeId) (a x : V) (c : Eff → Option R) : Option R :=
  match (T t).kind, x with
  | .array n e, .int _ x => match (T e).kind with
    | .bad => none
    | _ => bif validP M a then (match elemE M a n (T e).size x with
      | some v => bif inRange x n then c { val := v, fp := fpOf a } else none
      | none => none) else none
  | .slice e, .int _ x => match (T e).kind with
    | .bad => none
    | _ => let s := (T e).size
      match a with
      | .sl b i m g => match M b with
        | .row τ l g' _ => bif Nat.beq g g' && Nat.beq s τ.size then (bif inRange x (lenOf l i m) then c { val := .ptr b (x.toNat + i) 0 g, fp := [b] } else none) else none
        | _ => none
      | .fz τ l => bif Nat.beq s τ.size then (bif inRange x l.length then c { val := .fp τ l x.toNat 0 } else none) else none
      | .sb b j s' n => match M b with
        | .box _ => bif Nat.beq s s' then (bif inRange x n then c { val := .pa b j s n x 0, fp := [b] } else none) else none
        | _ => none
      | _ => none
  | _, _ => none

def indexE (T : TypeId → TT) (t : TypeId) (a x : V) (c : Eff → Option R) : Option R :=
  match (T t).kind, a, x with
  | .array n e, .agg cs, .int _ x => match (T e).kind with
    | .bad => none
    | k => let s := (T e).size
      bif Nat.ble (n * s) cs.length && (k.agg || Nat.beq s 1) then (bif inRange x n then c { val := mkv k.agg (pick cs 0 s n x.toNat 0 s) } else none) else none
  | .str, .str s, .int _ x => bif inRange x s.size then c { val := .int .u8 ((s.data.getD x.toNat 0).toNat : Nat) } else none
  | _, _, _ => none

/-- a slice expression's bound, or its default -/
def bnd (d : Nat) : Option V → Option Nat
  | none => some d
  | some (.int _ x) => bif decide (0 ≤ x) then some x.toNat else none
  | _ => none

/-- what a slice expression takes: the low bound, the high one if it is given -/
def sliceFz {α : Type} (l : List α) (lo : Nat) (hi : Option Nat) : List α :=
  match hi with
  | none => l.drop lo
  | some h => (l.take h).drop lo

/-- the parts of a slice expression over something of length n: low, high where given; its tests -/
def cutE (n : Nat) (lo hi mx : Option V) (c : Nat → Option Nat → Option R) : Option R :=
  match mx with
  | some (.int _ m) => match hi with
    | some (.int _ h) => match lo with
      | some (.int _ l) => bif decide (0 ≤ l) && decide (l ≤ h) && decide (h ≤ m) && decide (m ≤ n) then c l.toNat (some h.toNat) else none
      | none => bif decide (0 ≤ h) && decide (h ≤ m) && decide (m ≤ n) then c 0 (some h.toNat) else none
      | _ => none
    | _ => none
  | none => match hi with
    | some (.int _ h) => match lo with
      | some (.int _ l) => bif decide (0 ≤ l) && decide (l ≤ h) && decide (h ≤ n) then c l.toNat (some h.toNat) else none
      | none => bif decide (0 ≤ h) && decide (h ≤ n) then c 0 (some h.toNat) else none
      | _ => none
    | none => match lo with
      | some (.int _ l) => bif decide (0 ≤ l) && decide (l ≤ n) then c l.toNat none else none
      | none => c 0 none
      | _ => none
    | _ => none
  | _ => none

def sliceE (T : TypeId → TT) (M : Mem) (t : TypeId) (a : V) (lo hi mx : Option V) (c : Eff → Option R) : Option R :=
  match (T t).kind, a with
  | .str, .str s => match mx with
    | none => cutE s.size lo hi none fun l h => match h with
      | none => c { val := .str (s.extract l s.size) }
      | some h => c { val := .str (s.extract l h) }
    | some _ => none
  | .slice e, .sl b i m g => match M b, (T e).kind with
    | _, .bad => none
    | .row τ r g' _, _ => let sz := (T e).size
        bif Nat.beq g g' && Nat.beq sz τ.size then
        cutE (lenOf r i m) lo hi mx fun l h => match h, m with
          | none, none => c { val := .sl b (l + i) none g, fp := [b] }
          | none, some m => c { val := .sl b (l + i) (some (m - l)) g, fp := [b] }
          | some h, _ => c { val := .sl b (l + i) (some (h - l)) g, fp := [b] }
      else none
    | _, _ => none
  | .slice e, .fz τ r => match (T e).kind with
    | .bad => none
    | _ => bif Nat.beq (T e).size τ.size then cutE r.length lo hi mx fun l h => c { val := .fz τ (sliceFz r l h) } else none
  | .slice e, .nils => match (T e).kind with
    | .bad => none
    | _ => match mx with
      | none => cutE 0 lo hi none fun _ _ => c { val := .nils }
      | some _ => none
  | .array n e, .ptr b i j g => match (T e).kind with
    | .bad => none
    | _ => let s := (T e).size
    match M b, lo, mx with
    | .box cells, none, none => bif Nat.beq i 0 && Nat.beq g 0 && Nat.ble (j + n * s) cells.length then cutE n none hi none fun _ h => c { val := .sb b j s (h.getD n), fp := [b] } else none
    | _, _, _ => none
  | _, _ => none

def newE (M : Mem) (id : Nat) (k : Blk) (v : V) (more : List (Nat × Blk)) (fp : List Nat) (c : Eff → Option R) : Option R :=
  match M id with
  | .none => c { val := v, upd := (id, k) :: more, fp := id :: fp }
  | _ => none

def allocE (T : TypeId → TT) (M : Mem) (id : Nat) (t : TypeId) (c : Eff → Option R) : Option R :=
  match (T t).kind, (T t).zero with
  | .bad, _ => none
  | _, some z => newE M id (.box z) (.ptr id 0 0 0) [] [] c
  | _, none => none

def boxE (M : Mem) (id : Nat) (x : V) (c : Eff → Option R) : Option R :=
  match x.cells? with
  | some cs => newE M id (.box cs) (.ptr id 0 0 0) [] [] c
  | none => none

/-- the types of all fields are known -/
def fieldsOk (T : TypeId → TT) (t : TypeId) : Bool :=
  match (T t).kind with
  | .struct fs => fs.all fun f => match (T f.type).kind with
    | .bad => false
    | _ => true
  | .array _ e => match (T e).kind with
    | .bad => false
    | _ => true
  | _ => true

def buildE (T : TypeId → TT) (t : TypeId) (parts : List (Nat × V)) (c : Eff → Option R) : Option R :=
  match (T t).zero with
  | some z => bif (T t).kind.agg && fieldsOk T t then (fillE (placeOf T t) z parts fun cells => c { val := .agg cells }) else none
  | none => none

def zeroOk (t : TT) : Bool :=
  match t.zero with
  | some z => Nat.beq z.length t.size
  | none => false

/-- a row's element type: its size in bytes is small -/
def rowOf (T : TypeId → TT) (t : TypeId) : Option (TypeId × Ty × Nat) :=
  match (T t).kind with
  | .slice e => match (T e).ty with
    | some τ => match (T e).kind with
      | .bad => none
      | _ => bif Nat.beq (T e).size τ.size && Nat.ble (T e).bytes 16384 && Nat.blt 0 (T e).size && zeroOk (T e) then some (e, τ, (T e).size) else none
    | none => none
  | _ => none

/-- parts into frozen data -/
def frzs (M : Mem) : List V → List V × List (Nat × Blk)
  | [] => ([], [])
  | v :: r => match frz M v, frzs M r with
    | (v', u), (r', us) => (v' :: r', u ++ us)

def buildSliceE (T : TypeId → TT) (M : Mem) (id : Nat) (t : TypeId) (len : Nat) (parts : List (Nat × V)) (c : Eff → Option R) : Option R :=
  match rowOf T t with
  | some (e, τ, s) => match (T e).zero with
    | some z => bif Nat.beq z.length s && Nat.ble (len * s) 16777216 then
        (fillE (fun i => some (i * s, s)) (List.replicate len z).flatten parts fun cells => match decN τ len cells with
          | some l => newE M id (.row τ l 0 false) (.sl id 0 none 0) [] [] c
          | none => none) else none
    | none => none
  | none => none

def maxRow : Nat := 1000000000

def makeSliceE (T : TypeId → TT) (M : Mem) (id : Nat) (t : TypeId) (len cap : V) (c : Eff → Option R) : Option R :=
  match rowOf T t, len, cap with
  | some (e, τ, s), .int _ n, .int _ m => match (T e).zero with
    | some z => match dec τ z with
      | some (x, []) => bif Nat.beq z.length s then (bif decide (0 ≤ n) && decide (n ≤ m) && decide (m ≤ (maxRow : Int)) then newE M id (.row τ (List.replicate n.toNat x) 0 false) (.sl id 0 none 0) [] [] c else none) else none
      | _ => none
    | none => none
  | _, _, _ => none

/-- the elements that an operand holds -/
def elems (M : Mem) (τ : Ty) : V → Option (List τ.den × List Nat)
  | .sl b i m g => match M b with
    | .row τ' l g' _ => bif Nat.beq g g' then (if h : τ' = τ then some (cut (h ▸ l) i m, [b]) else none) else none
    | _ => none
  | .fz τ' l => if h : τ' = τ then some (h ▸ l, []) else none
  | .nils => some ([], [])
  | .sb b j s n => match M b with
    | .box cells => bif Nat.beq s τ.size && Nat.ble (j + n * s) cells.length then (match decN τ n ((cells.drop j).take (n * s)) with
      | some l => some (l, [b])
      | none => none) else none
    | _ => none
  | _ => none

def appendE (T : TypeId → TT) (M : Mem) (id : Nat) (t : TypeId) (s x : V) (c : Eff → Option R) : Option R :=
  match rowOf T t with
  | some (_, τ, _) => match elems M τ x with
    | some (ys, fp) => match s with
      | .nils => bif decide (ys.length ≤ maxRow) then newE M id (.row τ ys 0 false) (.sl id 0 none 0) [] fp c else none
      | .sl b i none g => match M b with
        | .row τ' l g' ro => bif Nat.beq g g' && !ro then (if h : τ' = τ then
            (bif decide ((cut (h ▸ l) i none ++ ys).length ≤ maxRow) then c { val := .sl b 0 none (g + 1), upd := [(b, .row τ (cut (h ▸ l) i none ++ ys) (g + 1) false)], fp := b :: fp } else none) else none) else none
        | _ => none
      | _ => none
    | none => none
  | none => none

/-- n elements of s cells, from cell j of a variable on, with a list copied over them -/
def copyNew (cells : List V) (j s : Nat) (τ : Ty) (ys : List τ.den) : Nat → List V
  | 0 => []
  | n + 1 => copyNew cells j s τ ys n ++ (List.range s).map fun r => V.sel (Nat.blt n ys.length) ((enc τ (ys.getD n τ.dflt)).getD r .dead) (cells.getD (j + n * s + r) .dead)

def copyE (T : TypeId → TT) (M : Mem) (t : TypeId) (d x : V) (c : Eff → Option R) : Option R :=
  match rowOf T t with
  | some (_, τ, s) => match elems M τ x with
    | some (ys, fp) => match d with
      | .sb b j s' n => match M b with
        | .box cells => bif Nat.beq s s' && Nat.ble (j + n * s) cells.length then
            c { val := .int .i64 (Nat.min ys.length n : Nat), upd := [(b, .box (setCells cells j (copyNew cells j s τ ys n)))], fp := b :: fp } else none
        | _ => none
      | _ => none
    | none => none
  | none => none

def lenE (T : TypeId → TT) (M : Mem) (t : TypeId) (x : V) (c : Eff → Option R) : Option R :=
  match (T t).kind, x with
  | .str, .str s => c { val := .int .i64 (s.size : Nat) }
  | .array n _, _ => c { val := .int .i64 (n : Nat) }
  | .slice _, .sl b i m g => match M b with
    | .row _ l g' _ => bif Nat.beq g g' then c { val := .int .i64 (lenOf l i m : Nat), fp := [b] } else none
    | _ => none
  | .slice _, .fz _ l => c { val := .int .i64 (l.length : Nat) }
  | .slice _, .nils => c { val := .int .i64 (0 : Nat) }
  | .slice _, .sb b _ _ n => match M b with
    | .box _ => c { val := .int .i64 (n : Nat), fp := [b] }
    | _ => none
  | _, _ => none

def minE (isMax : Bool) (x y : V) (c : Eff → Option R) : Option R :=
  match x, y with
  | .int k a, .int _ b => bif isMax then c { val := .int k (if b > a then b else a) } else c { val := .int k (if b < a then b else a) }
  | _, _ => none

def builtinE (T : TypeId → TT) (M : Mem) (id : Nat) (b : Builtin) (ts : List TypeId) (args : List V) (c : Eff → Option R) : Option R :=
  match b, ts, args with
  | .len, t :: _, x :: _ => lenE T M t x c
  | .append, t :: t2 :: _, s :: x :: _ => match (T t2).kind with
    | .slice _ => appendE T M id t s x c
    | _ => none
  | .copy, t :: _, d :: x :: _ => copyE T M t d x c
  | .min, _, [x, y] => minE false x y c
  | .max, _, [x, y] => minE true x y c
  | _, _, _ => none

/-- one operation -/
def opE (T : TypeId → TT) (callE : FuncId → List V → Mem → Nat → (Eff → Option R) → Option R) (id : Nat) (o : Op) (ev : Operand → V) (M : Mem) (c : Eff → Option R) : Option R :=
  match o with
  | .move x => c { val := ev x }
  | .assign x => c { val := ev x }
  | .pick q a b => match ev q with
    | .bool t => c { val := V.sel t (ev a) (ev b) }
    | _ => none
  | .alloc t => allocE T M id t c
  | .box _ x => boxE M id (ev x) c
  | .build t parts => buildE T t (parts.toList.map fun p => (p.1, ev p.2)) c
  | .buildSlice t n parts => buildSliceE T M id t n (parts.toList.map fun p => (p.1, ev p.2)) c
  | .load t a => loadE T M t (ev a) c
  | .store t a x => storeE T M t (ev a) (ev x) c
  | .binOp op t x y _ => binE T op t (ev x) (ev y) c
  | .unOp op _ x => unE op (ev x) c
  | .convert s d x => convE T s d (ev x) c
  | .makeFunc (.func f) first cap => bif first.isEmpty then c { val := .fn f (cap.toList.map ev) } else none
  | .makeSlice t l m => makeSliceE T M id t (ev l) (ev m) c
  | .slice t x lo hi mx => sliceE T M t (ev x) (lo.map ev) (hi.map ev) (mx.map ev) c
  | .fieldAddr s x f => fieldAddrE T M s (ev x) f c
  | .field s x f => fieldE T s (ev x) f c
  | .indexAddr t x i => indexAddrE T M t (ev x) (ev i) c
  | .index t x i => indexE T t (ev x) (ev i) c
  | .extract x i => match ev x with
    | .tup vs => match vs[i]? with
      | some v => c { val := v }
      | none => none
    | _ => none
  | .call q => match q.callee with
    | .value f => match ev f with
      | .fn g cap => callE g (q.args.toList.map ev ++ cap) M id c
      | _ => none
    | .builtin b => builtinE T M id b q.argTypes.toList (q.args.toList.map ev) c
    | _ => none
  | _ => none

end
end Go.Pv
