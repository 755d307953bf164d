/-
  The abstract run of code, in continuation-passing form.
-/
import Derived.Test.YtdfbjdchnkhiiaaDoorPvOp
namespace Go.Pv

section
variable {R : Type}

def setT (ρ : Nat → V) (t : Nat) (v : V) : Nat → V := fun x => bif Nat.beq x t then v else ρ x

/-- the temporary that an operation of the region leaves its value in -/
def dstOf (ops : List Oper) (j : Nat) : Option Nat := (ops[j]?).bind (·.dst)

/-- a guard: is the operation wanted? what is known of the guard's temporary afterwards -/
def guardE (ops : List Oper) (ρ : Nat → V) (g : Option (Nat × Bool)) (yes no : (Nat → V) → Option R) : Option R :=
  match g with
  | none => yes ρ
  | some (j, want) => match dstOf ops j with
    | some t => match ρ t with
      | .bool b => bif b then (bif want then yes (setT ρ t (.bool true)) else no (setT ρ t (.bool true)))
          else (bif want then no (setT ρ t (.bool false)) else yes (setT ρ t (.bool false)))
      | .tup vs => match vs with
        | [] => no ρ
        | _ => none
      | _ => none
    | none => none

/-- a value into its temporary (there are nt of them) -/
def dstE (nt : Nat) (ρ : Nat → V) (d : Option Nat) (v : V) (k : (Nat → V) → Option R) : Option R :=
  match d with
  | some d => bif Nat.blt d nt then k (setT ρ d v) else none
  | none => k ρ

/-- the operations of a region, in the order of the text -/
def opsE (T : TypeId → TT) (callE : FuncId → List V → Mem → Nat → (Eff → Option R) → Option R) (nt : Nat) (all : List Oper) : List Oper → Nat → (Nat → V) → Mem → ((Nat → V) → Mem → Nat → Option R) → Option R
  | [], id, ρ, M, c => c ρ M id
  | o :: r, id, ρ, M, c =>
    guardE all ρ o.guard
      (fun ρ => opE T callE id o.op (evO ρ) M fun e => e.val.force fun v => forceU M e.upd fun M => dstE nt ρ o.dst v fun ρ => forceN (id + 1) fun id => opsE T callE nt all r id ρ M c)
      (fun ρ => dstE nt ρ o.dst (.tup []) fun ρ => forceN (id + 1) fun id => opsE T callE nt all r id ρ M c)

/-! ### A region whose order is drawn: the text's order, and that it does not matter -/
/-- what an operation has done to what -/
structure Rc where
  o : Oper
  reads : List Nat
  wr : List Nat
  fp : List Nat

def tmpOf : Operand → Option Nat
  | .tmp t => some t
  | _ => none

def readsOf (all : List Oper) (o : Oper) : List Nat :=
  o.op.operands.toList.filterMap tmpOf ++ (match o.guard with
    | some (j, _) => (dstOf all j).toList
    | none => [])

def hasN (t : Nat) : List Nat → Bool
  | [] => false
  | x :: r => Nat.beq t x || hasN t r

def disj : List Nat → List Nat → Bool
  | [], _ => true
  | x :: r, l => !hasN x l && disj r l

def dstIn (d : Option Nat) (l : List Nat) : Bool :=
  match d with
  | some t => hasN t l
  | none => false

def apartR (p q : Rc) : Bool :=
  !dstIn p.o.dst q.reads && !dstIn q.o.dst p.reads && !dstIn p.o.dst q.o.dst.toList && disj p.wr q.fp && disj q.wr p.fp

/-- does o wait for operation i? -/
def waits (o : Oper) (i : Nat) : Bool := o.after.toList.any fun e => Nat.beq e.on i && Region.binds .any e

def dirs (o : Oper) : List Nat := (o.after.toList.filter fun e => Region.binds .any e).map (·.on)

/-- whom each operation waits for, through others too -/
def ancAdd (acc : List (List Nat)) : List Nat → List Nat → List Nat
  | [], s => s
  | e :: r, s => ancAdd acc r (bif hasN e s then s else e :: (acc.getD e [] ++ s))

def ancs : List Oper → List (List Nat) → List (List Nat)
  | [], acc => acc
  | o :: r, acc => ancs r (acc ++ [ancAdd acc (dirs o) []])

def indepWith (A : List (List Nat)) (i : Nat) (p : Rc) : Nat → List Rc → Bool
  | _, [] => true
  | j, q :: r => (hasN i (A.getD j []) || apartR p q) && indepWith A i p (j + 1) r

def indepFrom (A : List (List Nat)) : Nat → List Rc → Bool
  | _, [] => true
  | i, p :: r => indepWith A i p (i + 1) r && indepFrom A (i + 1) r

/-- every operation waits for earlier ones alone -/
def edgesOk : Nat → List Oper → Bool
  | _, [] => true
  | j, o :: r => (o.after.toList.all fun e => !Region.binds .any e || Nat.blt e.on j) && edgesOk (j + 1) r

def opsD (T : TypeId → TT) (callE : FuncId → List V → Mem → Nat → (Eff → Option R) → Option R) (nt : Nat) (all : List Oper) : List Oper → Nat → (Nat → V) → Mem → List Rc → ((Nat → V) → Mem → Nat → Option R) → Option R
  | [], id, ρ, M, rs, c => bif indepFrom (ancs all []) 0 rs && edgesOk 0 all then c ρ M id else none
  | o :: r, id, ρ, M, rs, c =>
    guardE all ρ o.guard
      (fun ρ => opE T callE id o.op (evO ρ) M fun e => e.val.force fun v => forceU M e.upd fun M => dstE nt ρ o.dst v fun ρ => forceN (id + 1) fun id => opsD T callE nt all r id ρ M (rs ++ [⟨o, readsOf all o, e.upd.map (·.1), e.fp⟩]) c)
      (fun ρ => dstE nt ρ o.dst (.tup []) fun ρ => forceN (id + 1) fun id => opsD T callE nt all r id ρ M (rs ++ [⟨o, readsOf all o, [], []⟩]) c)

inductive Ex where
  | normal | exit (id : Nat) | ret

abbrev Kont (R : Type) := Ex → (Nat → V) → Mem → Nat → Option R

def codeE (T : TypeId → TT) (callE : FuncId → List V → Mem → Nat → (Eff → Option R) → Option R) (nt : Nat) (hook : Code → Option ((Nat → V) → Mem → Nat → Kont R → Option R)) :
    Nat → Code → (Nat → V) → Mem → Nat → Kont R → Option R
  | 0, _, _, _, _, _ => none
  | n + 1, code, ρ, M, nx, K =>
    match hook code with
    | some h => h ρ M nx K
    | none =>
    match code with
    | .skip => K .normal ρ M nx
    | .region _ ops draw => bif draw then opsD T callE nt ops.toList ops.toList nx ρ M [] fun ρ M nx => K .normal ρ M nx
        else opsE T callE nt ops.toList ops.toList nx ρ M fun ρ M nx => K .normal ρ M nx
    | .seq a b => codeE T callE nt hook n a ρ M nx fun e ρ M nx => match e with
      | .normal => codeE T callE nt hook n b ρ M nx K
      | .exit id => K (.exit id) ρ M nx
      | .ret => K .ret ρ M nx
    | .cond c a b => match c with
      | .tmp t => match ρ t with
        | .bool q => bif q then codeE T callE nt hook n a (setT ρ t (.bool true)) M nx K else codeE T callE nt hook n b (setT ρ t (.bool false)) M nx K
        | _ => none
      | _ => none
    | .block id body => codeE T callE nt hook n body ρ M nx fun e ρ M nx => match e with
      | .normal => K .normal ρ M nx
      | .exit id' => bif Nat.beq id' id then K .normal ρ M nx else K (.exit id') ρ M nx
      | .ret => K .ret ρ M nx
    | .loop body => codeE T callE nt hook n body ρ M nx fun e ρ M nx => match e with
      | .normal => codeE T callE nt hook n (.loop body) ρ M nx K
      | .exit id => K (.exit id) ρ M nx
      | .ret => K .ret ρ M nx
    | .exit id => K (.exit id) ρ M nx
    | .ret => K .ret ρ M nx
    | _ => none

/-- a function's frame: its parameters -/
def paramsE : List V → Nat → Nat → V
  | [], _ => fun _ => .dead
  | v :: r, i => setT (paramsE r (i + 1)) i v

/-- its results -/
def resE (T : TypeId → TT) (ρ : Nat → V) (M : Mem) : List ResultVar → Option (List V)
  | [] => some []
  | .tmp t :: r => match resE T ρ M r with
    | some vs => some (ρ t :: vs)
    | none => none
  | .cell a t :: r => match loadE T M t (ρ a) (fun e => some e.val) with
    | some v => match resE T ρ M r with
      | some vs => some (v :: vs)
      | none => none
    | none => none

def retV : List V → V
  | [v] => v
  | vs => .tup vs

end
end Go.Pv
