/-
  Doubles: what the functions of layers 15 and 16 that the law needs compute.
-/
import Derived.Test.YtdfbjdchnkhiiaaDoorR3Scal
namespace Go.Pv
open Go.Proofs
set_option maxRecDepth 1000000
/-! ### The two at the bottom -/
noncomputable def callNo (R : Type) : CallE R := callsE Tryd.prog tt (fun _ => none) 20
theorem callNo_ok (R : Type) : CallsOK Tryd.prog (callNo R) := callsE_ok tt_ok mixed names (fun _ _ h => by cases h) 20
noncomputable abbrev e47 (p : Db) := evalF Tryd.prog tt callNo [] 47 [.agg tD] [.val tI] (p, ())
noncomputable abbrev e53 (v : Int) := evalF Tryd.prog tt callNo [] 53 [.val tI] [.agg tD] (v, ())
def wordK (x : Int) (k : Int → Option (Int × Unit)) : Option (Int × Unit) := bif decide (w64 (mw x) ≥ 16384) then k (w64 (w64 (mw x) - 32767)) else k (w64 (mw x))
theorem e47_eq (x y : Int) : e47 (x, y) = wordK x fun u => wordK y fun v => some (w64 (w64 (u * 16384) + v), ()) := by kernel_rfl
def lo14 (m : Int) : Int := IntKind.u16.wrap (IntKind.u64.wrap (BitVec.ofInt IntKind.u64.bits m &&& BitVec.ofInt IntKind.u64.bits 16383).toNat)
def sh14 (m : Int) : Int := m.fdiv (2 ^ min (Int.toNat 14) IntKind.u64.bits)
def dMag (v : Int) : Int := bif decide (v < 0) then IntKind.u64.wrap (0 - IntKind.u64.wrap v) else IntKind.u64.wrap v
def dig (v m : Int) : Int := bif decide (v < 0) then IntKind.u16.wrap (32767 - lo14 m) else lo14 m
theorem e53_eq (v : Int) : e53 v = bif decide (v < 0) then
      (bif decide (v < 0) then bif decide (v < 0) then some ((IntKind.u16.wrap (32767 - lo14 (sh14 (IntKind.u64.wrap (0 - IntKind.u64.wrap v)))), IntKind.u16.wrap (32767 - lo14 (IntKind.u64.wrap (0 - IntKind.u64.wrap v)))), ())
          else some ((lo14 (sh14 (IntKind.u64.wrap (0 - IntKind.u64.wrap v))), IntKind.u16.wrap (32767 - lo14 (IntKind.u64.wrap (0 - IntKind.u64.wrap v)))), ())
        else bif decide (v < 0) then some ((IntKind.u16.wrap (32767 - lo14 (sh14 (IntKind.u64.wrap (0 - IntKind.u64.wrap v)))), lo14 (IntKind.u64.wrap (0 - IntKind.u64.wrap v))), ())
          else some ((lo14 (sh14 (IntKind.u64.wrap (0 - IntKind.u64.wrap v))), lo14 (IntKind.u64.wrap (0 - IntKind.u64.wrap v))), ()))
    else (bif decide (v < 0) then bif decide (v < 0) then some ((IntKind.u16.wrap (32767 - lo14 (sh14 (IntKind.u64.wrap v))), IntKind.u16.wrap (32767 - lo14 (IntKind.u64.wrap v))), ())
          else some ((lo14 (sh14 (IntKind.u64.wrap v)), IntKind.u16.wrap (32767 - lo14 (IntKind.u64.wrap v))), ())
        else bif decide (v < 0) then some ((IntKind.u16.wrap (32767 - lo14 (sh14 (IntKind.u64.wrap v))), lo14 (IntKind.u64.wrap v)), ())
          else some ((lo14 (sh14 (IntKind.u64.wrap v)), lo14 (IntKind.u64.wrap v)), ())) := by kernel_rfl
def wv (x : Int) : Int := bif decide (w64 (mw x) ≥ 16384) then w64 (w64 (mw x) - 32767) else w64 (mw x)
def Vd (p : Db) : Int := w64 (w64 (wv p.1 * 16384) + wv p.2)
def Dd (v : Int) : Db := (dig v (sh14 (dMag v)), dig v (dMag v))
theorem eval47 (p : Db) : e47 p = some (Vd p, ()) := by
  obtain ⟨x, y⟩ := p
  rw [e47_eq]
  unfold wordK Vd wv
  cases decide (w64 (mw x) ≥ 16384) <;> cases decide (w64 (mw y) ≥ 16384) <;> rfl
theorem eval53 (v : Int) : e53 v = some (Dd v, ()) := by
  rw [e53_eq]
  unfold Dd dig dMag
  cases decide (v < 0) <;> rfl

/-! ### What rests on them -/
structure GV where
  V : Db → Int
  D : Int → Db
  Q : Int → Int → Int
  dQ : Int → Int → Bool
@[reducible] def sII : Sig := [.val tI, .val tI]
def specsNV (g : GV) (R : Type) (f : FuncId) : Option (List V → Mem → Nat → (Eff → Option R) → Option R) :=
  match f with
  | 47 => some (specD [.agg tD] [.val tI] (fun _ => true) fun x => (g.V x.1, ()))
  | 53 => some (specD [.val tI] [.agg tD] (fun _ => true) fun x => (g.D x.1, ()))
  | 49 => some (specD sII [.val tI] (fun x => g.dQ x.1 x.2.1) fun x => (g.Q x.1 x.2.1, ()))
  | _ => none
noncomputable def callV' (g : GV) (R : Type) : CallE R := callsE Tryd.prog tt (specsNV g R) 20
def clampK {α : Type} (v : Int) (k : Int → Bool → Option α) : Option α := bif decide (v > 268435455) then k 268435455 true else bif decide (v < -268435455) then k (-268435455) true else k v false
def onlyN {α : Type} (b : Bool) (o : Option α) : Option α := bif b then o else none
theorem e30_eq (g : GV) (p : Db) : evalF Tryd.prog tt (callV' g) [] 30 [.agg tD] [.agg tD] (p, ()) = some (g.D (g.V p), ()) := by kernel_rfl
theorem e21_eq (g : GV) (p a : Db) : evalF Tryd.prog tt (callV' g) [] 21 sDD [.agg tD, .val .bool] (p, a, ()) = clampK (w64 (g.V p + g.V a)) fun v o => some (g.D v, o, ()) := by kernel_rfl
theorem e22_eq (g : GV) (p a : Db) : evalF Tryd.prog tt (callV' g) [] 22 sDD [.agg tD, .val .bool] (p, a, ()) = clampK (w64 (g.V p - g.V a)) fun v o => some (g.D v, o, ()) := by kernel_rfl
theorem e23_eq (g : GV) (p a : Db) : evalF Tryd.prog tt (callV' g) [] 23 sDD [.agg tD] (p, a, ()) = onlyN (g.dQ (w64 (g.V p * g.V a)) 268435456) (clampK (g.Q (w64 (g.V p * g.V a)) 268435456) fun v _ => some (g.D v, ())) := by kernel_rfl
abbrev RD2 := Option (Db × Bool × Unit)
def divR (g : GV) (v : Int) : RD2 := bif v == 0 then some ((0, 0), true, ()) else bif decide (v < 0) then some (g.D (-268435455), true, ()) else some (g.D 268435455, true, ())
def divB (g : GV) (v w : Int) : RD2 := bif decide (v < w) then bif decide (w64 (0 - v) < w) then onlyN (g.dQ (w64 (v * 268435456)) w) (clampK (g.Q (w64 (v * 268435456)) w) fun c _ => some (g.D c, false, ())) else divR g v else divR g v
theorem e24_eq (g : GV) (p a : Db) : evalF Tryd.prog tt (callV' g) [] 24 sDD [.agg tD, .val .bool] (p, a, ()) =
    bif decide (g.V a < 0) then divB g (w64 (0 - g.V p)) (w64 (0 - g.V a)) else divB g (g.V p) (g.V a) := by kernel_rfl

/-! ### The quotient -/
def specsQ (dq : Int → Int → Bool) (q : Int → Int → Int) (R : Type) (f : FuncId) : Option (List V → Mem → Nat → (Eff → Option R) → Option R) :=
  match f with
  | 49 => some (specD sII [.val tI] (fun x => dq x.1 x.2.1) fun x => (q x.1 x.2.1, ()))
  | _ => none
noncomputable def callQ (dq : Int → Int → Bool) (q : Int → Int → Int) (R : Type) : CallE R := callsE Tryd.prog tt (specsQ dq q R) 20
def q0 (p q : Int) : Int := bif decide (p.tmod q ≥ w64 (q - p.tmod q)) then w64 (w64 (p.tdiv q) + 1) else w64 (p.tdiv q)
def q0K (p q : Int) : Option (Int × Unit) := bif decide (q = 0) then none else bif decide (q = 0) then none else bif decide (p.tmod q ≥ w64 (q - p.tmod q)) then some (w64 (w64 (p.tdiv q) + 1), ()) else some (w64 (p.tdiv q), ())
theorem e49_eq (dq : Int → Int → Bool) (f : Int → Int → Int) (p q : Int) : evalF Tryd.prog tt (callQ dq f) [] 49 sII [.val tI] (p, q, ()) =
    bif decide (p < 0) then onlyN (dq (w64 (0 - p)) q) (some (w64 (0 - f (w64 (0 - p)) q), ())) else q0K p q := by kernel_rfl
end Go.Pv
