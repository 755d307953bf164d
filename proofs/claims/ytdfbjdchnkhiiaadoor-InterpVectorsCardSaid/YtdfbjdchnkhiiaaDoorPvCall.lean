/-
  Calls that are run in place.
-/
import Derived.Test.YtdfbjdchnkhiiaaDoorPvRun
namespace Go.Pv

/-! ### The blocks that a value names -/
mutual
def V.refs : V → List Nat
  | .ptr b _ _ _ => [b]
  | .pa b _ _ _ _ _ => [b]
  | .sl b _ _ _ => [b]
  | .sb b _ _ _ => [b]
  | .fn _ cap => refsL cap
  | .agg cs => refsL cs
  | .tup vs => refsL vs
  | _ => []
def refsL : List V → List Nat
  | [] => []
  | v :: r => v.refs ++ refsL r
end

theorem refsL_mem {b : Nat} : ∀ {cs : List V} {i : Nat} (hi : i < cs.length), b ∈ cs[i].refs → b ∈ refsL cs
  | c :: r, 0, _, h => by simp only [refsL, List.mem_append]; exact .inl h
  | c :: r, i + 1, hi, h => by
    simp only [refsL, List.mem_append]
    exact .inr (refsL_mem (cs := r) (i := i) (by simpa using hi) h)

def Blk.refs : Blk → List Nat
  | .box cells => refsL cells
  | _ => []

def reach (M : Mem) : Nat → List Nat → List Nat → List Nat
  | 0, _, seen => seen
  | _ + 1, [], seen => seen
  | n + 1, b :: r, seen => bif hasN b seen then reach M n r seen else reach M n ((M b).refs ++ r) (b :: seen)

def subN (a b : List Nat) : Bool := a.all fun x => hasN x b
def closedN (M : Mem) (l : List Nat) : Bool := l.all fun b => subN (M b).refs l

/-- the part of memory in l -/
def Mem.only (M : Mem) (l : List Nat) : Mem := fun b => bif hasN b l then M b else .none

section
variable {R : Type}

def forceNs : List Nat → (List Nat → Option R) → Option R
  | [], k => k []
  | b :: r, k => forceN b fun b => forceNs r fun r => k (b :: r)

def forceUp : List (Nat × Blk) → (List (Nat × Blk) → Option R) → Option R
  | [], k => k []
  | (b, x) :: r, k => forceN b fun b => x.force fun x => forceUp r fun r => k ((b, x) :: r)

abbrev CallE (R : Type) := FuncId → List V → Mem → Nat → (Eff → Option R) → Option R

/-- what comes back -/
def leaveE (T : TypeId → TT) (fn : Func) (fp0 : List Nat) (M0 : Mem) (c : Eff → Option R) : Kont R := fun ex ρ M _ =>
  match ex with
  | .exit _ => none
  | _ => match resE T ρ M fn.results.toList with
    | none => none
    | some vs => (retV vs).force fun v => forceNs (reach M 1000 (v.refs ++ fp0) []) fun ids =>
      bif closedN M ids && subN v.refs ids && subN fp0 ids && ids.all (fun b => hasN b fp0 || (M0 b).isNone) then
        forceUp (ids.map fun b => (b, M b)) fun u => c { val := v, upd := u, fp := ids }
      else none

def inlineE (P : Program) (T : TypeId → TT) (callE : CallE R) : CallE R := fun f args M id c =>
  match P.funcs[f]? with
  | none => none
  | some fn => match fn.body with
    | none => none
    | some code => forceL2 args fun args => forceNs (reach M 1000 (refsL args) []) fun fp0 =>
      bif closedN M fp0 && subN (refsL args) fp0 && Nat.ble args.length fn.ntmps then
        forceN ((id + 1) * 100000) fun nx => codeE T callE fn.ntmps (fun _ => none) 100000 code (paramsE args 0) (M.only fp0) nx (leaveE T fn fp0 M c)
      else none

/-- calls, d deep -/
def callsE (P : Program) (T : TypeId → TT) (spec : FuncId → Option (List V → Mem → Nat → (Eff → Option R) → Option R)) : Nat → CallE R
  | 0 => fun _ _ _ _ _ => none
  | d + 1 => fun f args M id c => match spec f with
    | some s => s args M id c
    | none => inlineE P T (callsE P T spec d) f args M id c

end
end Go.Pv
