/-
  The law InterpScalars, run with what is known of its callees.
-/
import Derived.Test.YtdfbjdchnkhiiaaDoorR3Icode
namespace Go.Pv
open Go.Proofs
set_option maxRecDepth 1000000
@[reducible] def tD : Ty := .pair tW tW
@[reducible] def sDD : Sig := [.agg tD, .agg tD]
abbrev Db := Int × Int
structure GN where
  canon : Db → Db
  add : Db → Db → Db × Bool
  sub : Db → Db → Db × Bool
  mul : Db → Db → Db
  div : Db → Db → Db × Bool
def specsN (g : GN) (R : Type) (f : FuncId) : Option (List V → Mem → Nat → (Eff → Option R) → Option R) :=
  match f with
  | 10 => some (specD [] [.val .bool] (fun _ => true) fun _ => (true, ()))
  | 33 => some (specE sDec rDec FDecC)
  | 18 => some (specD sOp [.agg tForm] (fun x => kn x.1) fun x => (formOf x.1, ()))
  | 30 => some (specD [.agg tD] [.agg tD] (fun _ => true) fun x => (g.canon x.1, ()))
  | 21 => some (specD sDD [.agg tD, .val .bool] (fun _ => true) fun x => ((g.add x.1 x.2.1).1, (g.add x.1 x.2.1).2, ()))
  | 22 => some (specD sDD [.agg tD, .val .bool] (fun _ => true) fun x => ((g.sub x.1 x.2.1).1, (g.sub x.1 x.2.1).2, ()))
  | 23 => some (specD sDD [.agg tD] (fun _ => true) fun x => (g.mul x.1 x.2.1, ()))
  | 24 => some (specD sDD [.agg tD, .val .bool] (fun _ => true) fun x => ((g.div x.1 x.2.1).1, (g.div x.1 x.2.1).2, ()))
  | _ => none
noncomputable def callNum (g : GN) (R : Type) : CallE R := callsE Tryd.prog tt (specsN g R) 30
@[reducible] def sScal : Sig := [.agg tD, .agg tD, .val (.int .u8)]
noncomputable abbrev e5 (g : GN) (p a : Db) (w : Int) : Option (Bool × Unit) := evalT Tryd.prog tt (callNum g) [] [⟨4, 7, [10, 11, 12, 13]⟩] 5 sScal [Sl.val 0 .bool] (p, a, w, ())
/-- a word of memory -/
def mw (x : Int) : Int := IntKind.u16.wrap (BitVec.ofInt IntKind.u16.bits x &&& BitVec.ofInt IntKind.u16.bits 32767).toNat
def md (p : Db) : Db := (mw p.1, mw p.2)
def fin5 (g : GN) (d w : Db × Bool) : Option (Bool × Unit) :=
  bif (g.canon (g.canon d.1)).1 == w.1.1 then bif (g.canon (g.canon d.1)).2 == w.1.2 then bif d.2 == w.2 then some (true, ()) else some (false, ()) else some (false, ()) else some (false, ())
def arg1 (g : GN) (p : Db) : Db := g.canon (g.canon (g.canon (md p)))
def arg2 (g : GN) (a : Db) : Db := g.canon (g.canon (md a))
end Go.Pv
