/-
  Vectors: what the functions of layer 17 that the law needs compute.
-/
import Derived.Test.YtdfbjdchnkhiiaaDoorR3Vec
import Derived.Test.YtdfbjdchnkhiiaaDoorR3NumLaw
namespace Go.Pv
open Go.Proofs
set_option maxRecDepth 1000000
/-- the recursion of vector's quotient -/
def specsQ78 (dq : Int → Int → Bool) (q : Int → Int → Int) (R : Type) (f : FuncId) : Option (List V → Mem → Nat → (Eff → Option R) → Option R) :=
  match f with
  | 78 => some (specD sII [.val tI] (fun x => dq x.1 x.2.1) fun x => (q x.1 x.2.1, ()))
  | _ => none
noncomputable def callQ78 (dq : Int → Int → Bool) (q : Int → Int → Int) (R : Type) : CallE R := callsE Tryd.prog tt (specsQ78 dq q R) 20
theorem e78_eq (dq : Int → Int → Bool) (f : Int → Int → Int) (p q : Int) : evalF Tryd.prog tt (callQ78 dq f) [] 78 sII [.val tI] (p, q, ()) =
    bif decide (p < 0) then onlyN (dq (w64 (0 - p)) q) (some (w64 (0 - f (w64 (0 - p)) q), ())) else q0K p q := by kernel_rfl

/-! ### Sums: each component by itself -/
structure GA where
  add : Db → Db → Db × Bool
  sub : Db → Db → Db × Bool
def specsA (g : GA) (R : Type) (f : FuncId) : Option (List V → Mem → Nat → (Eff → Option R) → Option R) :=
  match f with
  | 21 => some (specD sDD [.agg tD, .val .bool] (fun _ => true) fun x => ((g.add x.1 x.2.1).1, (g.add x.1 x.2.1).2, ()))
  | 22 => some (specD sDD [.agg tD, .val .bool] (fun _ => true) fun x => ((g.sub x.1 x.2.1).1, (g.sub x.1 x.2.1).2, ()))
  | _ => none
noncomputable def callA (g : GA) (R : Type) : CallE R := callsE Tryd.prog tt (specsA g R) 20
def each3 (x y z : Db × Bool) : Option (Vc × Bool × Unit) :=
  bif x.2 then some ((x.1, y.1, z.1), true, ()) else bif y.2 then some ((x.1, y.1, z.1), true, ()) else some ((x.1, y.1, z.1), z.2, ())
theorem e25_eq (g : GA) (p a : Vc) : evalF Tryd.prog tt (callA g) [] 25 sVV [.agg tVec, .val .bool] (p, a, ()) = each3 (g.add p.1 a.1) (g.add p.2.1 a.2.1) (g.add p.2.2 a.2.2) := by kernel_rfl
theorem e26_eq (g : GA) (p a : Vc) : evalF Tryd.prog tt (callA g) [] 26 sVV [.agg tVec, .val .bool] (p, a, ()) = each3 (g.sub p.1 a.1) (g.sub p.2.1 a.2.1) (g.sub p.2.2 a.2.2) := by kernel_rfl

/-! ### Products -/
def specsP (g : GV) (R : Type) (f : FuncId) : Option (List V → Mem → Nat → (Eff → Option R) → Option R) :=
  match f with
  | 47 => some (specD [.agg tD] [.val tI] (fun _ => true) fun x => (g.V x.1, ()))
  | 53 => some (specD [.val tI] [.agg tD] (fun _ => true) fun x => (g.D x.1, ()))
  | 78 => some (specD sII [.val tI] (fun x => g.dQ x.1 x.2.1) fun x => (g.Q x.1 x.2.1, ()))
  | _ => none
noncomputable def callP (g : GV) (R : Type) : CallE R := callsE Tryd.prog tt (specsP g R) 20
def roundK {α : Type} (g : GV) (s : Int) (k : Int → Bool → Option α) : Option α := onlyN (g.dQ s 268435456) (clampK (g.Q s 268435456) k)
def sumDot (v w : Int × Int × Int) : Int := w64 (w64 (w64 (v.1 * w.1) + w64 (v.2.1 * w.2.1)) + w64 (v.2.2 * w.2.2))
def Vs (g : GV) (p : Vc) : Int × Int × Int := (g.V p.1, g.V p.2.1, g.V p.2.2)
def minor (a b c d : Int) : Int := w64 (w64 (a * b) - w64 (c * d))
theorem e28_eq (g : GV) (p a : Vc) : evalF Tryd.prog tt (callP g) [] 28 sVV [.agg tD, .val .bool] (p, a, ()) = roundK g (sumDot (Vs g p) (Vs g a)) fun v o => some (g.D v, o, ()) := by kernel_rfl
theorem e27_eq (g : GV) (p a : Vc) : evalF Tryd.prog tt (callP g) [] 27 sVV [.agg tVec, .val .bool] (p, a, ()) =
    roundK g (minor (g.V p.2.1) (g.V a.2.2) (g.V p.2.2) (g.V a.2.1)) fun v o =>
    roundK g (minor (g.V p.2.2) (g.V a.1) (g.V p.1) (g.V a.2.2)) fun v1 o1 =>
    roundK g (minor (g.V p.1) (g.V a.2.1) (g.V p.2.1) (g.V a.1)) fun v2 o2 => some ((g.D v, g.D v1, g.D v2), ((o || o1) || o2), ()) := by kernel_rfl

/-! ### The law -/
theorem e6_eq (g : GW) (p q r s t u a b c d e f w : Int) : e6 g ((p, q), (r, s), (t, u)) ((a, b), (c, d), (e, f)) w =
    bif (w.tmod 4 == 1) then vecV g (w.tmod 4 == 3) (g.sub (argV1 g ((p, q), (r, s), (t, u))) (argV2 g ((a, b), (c, d), (e, f)))) (g.sub ((p, q), (r, s), (t, u)) ((a, b), (c, d), (e, f)))
    else bif (w.tmod 4 == 2) then vecV g (w.tmod 4 == 3) (g.cross (argV1 g ((p, q), (r, s), (t, u))) (argV2 g ((a, b), (c, d), (e, f)))) (g.cross ((p, q), (r, s), (t, u)) ((a, b), (c, d), (e, f)))
    else bif (w.tmod 4 == 3) then dotV g (w.tmod 4 == 3) (g.dot (argV1 g ((p, q), (r, s), (t, u))) (argV2 g ((a, b), (c, d), (e, f)))) (g.dot ((p, q), (r, s), (t, u)) ((a, b), (c, d), (e, f)))
    else vecV g (w.tmod 4 == 3) (g.add (argV1 g ((p, q), (r, s), (t, u))) (argV2 g ((a, b), (c, d), (e, f)))) (g.add ((p, q), (r, s), (t, u)) ((a, b), (c, d), (e, f))) := by kernel_rfl
end Go.Pv
