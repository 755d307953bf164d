/-
  The law InterpVectors, run with what is known of its callees.
-/
import Derived.Test.YtdfbjdchnkhiiaaDoorR3Scal
namespace Go.Pv
open Go.Proofs
set_option maxRecDepth 1000000
@[reducible] def tVec : Ty := .pair tD (.pair tD tD)
abbrev Vc := Db × Db × Db
@[reducible] def sVV : Sig := [.agg tVec, .agg tVec]
structure GW where
  canon : Db → Db
  add : Vc → Vc → Vc × Bool
  sub : Vc → Vc → Vc × Bool
  cross : Vc → Vc → Vc × Bool
  dot : Vc → Vc → Db × Bool
def specsW (g : GW) (R : Type) (f : FuncId) : Option (List V → Mem → Nat → (Eff → Option R) → Option R) :=
  match f with
  | 10 => some (specD [] [.val .bool] (fun _ => true) fun _ => (true, ()))
  | 33 => some (specE sDec rDec FDecC)
  | 18 => some (specD sOp [.agg tForm] (fun x => kn x.1) fun x => (formOf x.1, ()))
  | 30 => some (specD [.agg tD] [.agg tD] (fun _ => true) fun x => (g.canon x.1, ()))
  | 25 => some (specD sVV [.agg tVec, .val .bool] (fun _ => true) fun x => ((g.add x.1 x.2.1).1, (g.add x.1 x.2.1).2, ()))
  | 26 => some (specD sVV [.agg tVec, .val .bool] (fun _ => true) fun x => ((g.sub x.1 x.2.1).1, (g.sub x.1 x.2.1).2, ()))
  | 27 => some (specD sVV [.agg tVec, .val .bool] (fun _ => true) fun x => ((g.cross x.1 x.2.1).1, (g.cross x.1 x.2.1).2, ()))
  | 28 => some (specD sVV [.agg tD, .val .bool] (fun _ => true) fun x => ((g.dot x.1 x.2.1).1, (g.dot x.1 x.2.1).2, ()))
  | _ => none
noncomputable def callVec (g : GW) (R : Type) : CallE R := callsE Tryd.prog tt (specsW g R) 30
@[reducible] def sVecs : Sig := [.agg tVec, .agg tVec, .val (.int .u8)]
noncomputable abbrev e6 (g : GW) (p a : Vc) (w : Int) : Option (Bool × Unit) := evalT Tryd.prog tt (callVec g) [] [] 6 sVecs [Sl.val 0 .bool] (p, a, w, ())
def map3 (f : Db → Db) (p : Vc) : Vc := (f p.1, f p.2.1, f p.2.2)
def argV1 (g : GW) (p : Vc) : Vc := map3 g.canon (map3 g.canon (map3 g.canon (map3 md p)))
def argV2 (g : GW) (p : Vc) : Vc := map3 g.canon (map3 g.canon (map3 md p))
def eqDb (a b : Db) : Bool := a.1 == b.1 && (a.2 == b.2 && true)
def eqVc (a b : Vc) : Bool := eqDb a.1 b.1 && (eqDb a.2.1 b.2.1 && (eqDb a.2.2 b.2.2 && true))
abbrev RBo := Option (Bool × Unit)
def tailV (b : Bool) (st w : Vc) : RBo :=
  bif b then (bif (st.1.1 == w.1.1) then bif (st.1.2 == w.1.2) then some (st.2.1.1 == 0, ()) else some (false, ()) else some (false, ()))
  else bif (st.1.1 != w.1.1) then some (false, ()) else bif (st.1.2 != w.1.2) then some (false, ())
  else bif (st.2.1.1 != w.2.1.1) then some (false, ()) else bif (st.2.1.2 != w.2.1.2) then some (false, ())
  else bif (st.2.2.1 != w.2.2.1) then some (false, ()) else bif (st.2.2.2 != w.2.2.2) then some (false, ()) else some (true, ())
def finV (b : Bool) (acc st : Vc) (over : Bool) (w : Vc) (out : Bool) : RBo :=
  bif (over != out) then some (false, ()) else bif (!(eqVc acc w)) then some (false, ()) else tailV b st w
def vecV (g : GW) (b : Bool) (d w : Vc × Bool) : RBo := finV b (map3 g.canon d.1) (map3 g.canon (map3 g.canon d.1)) d.2 w.1 w.2
def dotV (g : GW) (b : Bool) (d w : Db × Bool) : RBo := finV b (g.canon d.1, (0, 0), (0, 0)) (g.canon (g.canon d.1), (0, 0), (0, 0)) d.2 (w.1, (0, 0), (0, 0)) w.2
end Go.Pv
