/-
  Encode, of the program and of the reference: what they compute, kind by kind (operations of one kind taken together).
-/
import Derived.Test.YtidbhhfilhognaaR1DecFn
namespace Go.Pv
open Go.Proofs
set_option maxRecDepth 1000000
set_option linter.unusedVariables false
def specsE (D : Int → Bool) (q : Int) (R : Type) (f : FuncId) : Option (List V → Mem → Nat → (Eff → Option R) → Option R) :=
  match f with
  | 20 => some (specD sOp [.val .bool] (fun x => D x.1) fun _ => (true, ()))
  | 19 => some (specD sOp [.val .bool] (fun x => D x.1) fun _ => (true, ()))
  | 23 => some (specD sOp [.val (.int .u8)] (fun x => D x.1) fun _ => (q, ()))
  | 24 => some (specD sOp [.val (.int .u8)] (fun x => D x.1) fun _ => (q, ()))
  | _ => none
noncomputable def callEnc (D : Int → Bool) (q : Int) (R : Type) : CallE R := callsE Try.prog tt (specsE D q R) 20
@[reducible] def sEnc : Sig := [.agg tInstr]
@[reducible] def rEnc : Sig := [.row tW, .val tI]
noncomputable abbrev f12q (D : Int → Bool) (q : Int) (k a b x1 x2 x3 x4 x5 x6 : Int) := evalF Try.prog tt (callEnc D q) [] 12 sEnc rEnc ((k, a, b, (x1, x2), (x3, x4), (x5, x6)), ())
noncomputable abbrev f13q (D : Int → Bool) (q : Int) (k a b x1 x2 x3 x4 x5 x6 : Int) := evalF Try.prog tt (callEnc D q) [] 13 sEnc rEnc ((k, a, b, (x1, x2), (x3, x4), (x5, x6)), ())
noncomputable abbrev f12u (k a b x1 x2 x3 x4 x5 x6 : Int) := evalF Try.prog tt callU [] 12 sEnc rEnc ((k, a, b, (x1, x2), (x3, x4), (x5, x6)), ())
noncomputable abbrev f13u (k a b x1 x2 x3 x4 x5 x6 : Int) := evalF Try.prog tt callU [] 13 sEnc rEnc ((k, a, b, (x1, x2), (x3, x4), (x5, x6)), ())

abbrev En := Option (List Int × Int × Unit)
def ee (e : Int) : En := some ([], e, ())
def onlyI {α : Type} (b : Bool) (o : Option α) : Option α := bif b then o else none
def w16 (n : Int) : Int := IntKind.u16.wrap n
def zz (x y : Int) : Bool := x == 0 && (y == 0 && true)
def nz (a b x1 x2 x3 x4 x5 x6 : Int) : Bool := !(a == 0 && (b == 0 && ((zz x1 x2 && (zz x3 x4 && (zz x5 x6 && true))) && true)))
def pre12 (D : Int → Bool) (k : Int) (z : Bool) (c : List Int → En) : En := onlyI (D k) <| onlyI (D k) <| bif z then ee 2 else c [w16 k]
def put12 (n e : Int) (out : List Int) (c : Int → List Int → En) : En := bif decide (n < 0) then c e (out ++ [w16 (w64 (n + 32767))]) else c e (out ++ [w16 n])
def num12 (low high n e : Int) (out : List Int) (c : Int → List Int → En) : En := bif decide (n < low) then put12 n 3 out c else bif decide (n > high) then put12 n 3 out c else put12 n e out c
def lit12 (x y e : Int) (out : List Int) (c : Int → List Int → En) : En := bif decide ((if y > x then y else x) > 32767) then c 3 (out ++ [x, y]) else c e (out ++ [x, y])
def end12 (e : Int) (out : List Int) : En := bif e != 0 then ee e else some (out, 0, ())

def m12_0 (D : Int → Bool) (k a b x1 x2 x3 x4 x5 x6 : Int) : En := pre12 D k (nz a b x1 x2 x3 x4 x5 x6) fun out => some (out, 0, ())
def m12_n (low high : Int) (D : Int → Bool) (k a b x1 x2 x3 x4 x5 x6 : Int) : En := pre12 D k (nz 0 b x1 x2 x3 x4 x5 x6) fun out => num12 low high a 0 out end12
def m12_5 (D : Int → Bool) (k a b x1 x2 x3 x4 x5 x6 : Int) : En := pre12 D k (nz 0 0 x1 x2 x3 x4 x5 x6) fun out => num12 0 31 a 0 out fun e out => num12 0 31 b e out end12
def m12_6 (D : Int → Bool) (k a b x1 x2 x3 x4 x5 x6 : Int) : En := pre12 D k (nz a b 0 0 x3 x4 x5 x6) fun out => lit12 x1 x2 0 out end12
def m12_7 (D : Int → Bool) (k a b x1 x2 x3 x4 x5 x6 : Int) : En := pre12 D k (nz a b 0 0 0 0 0 0) fun out => lit12 x1 x2 0 out fun e out => lit12 x3 x4 e out fun e out => lit12 x5 x6 e out end12
theorem e12q_0 (D : Int → Bool) (k a b x1 x2 x3 x4 x5 x6 : Int) : f12q D 0 k a b x1 x2 x3 x4 x5 x6 = m12_0 D k a b x1 x2 x3 x4 x5 x6 := by kernel_rfl
theorem e12q_1 (D : Int → Bool) (k a b x1 x2 x3 x4 x5 x6 : Int) : f12q D 1 k a b x1 x2 x3 x4 x5 x6 = m12_n 0 2047 D k a b x1 x2 x3 x4 x5 x6 := by kernel_rfl
theorem e12q_2 (D : Int → Bool) (k a b x1 x2 x3 x4 x5 x6 : Int) : f12q D 2 k a b x1 x2 x3 x4 x5 x6 = m12_n (-56) 56 D k a b x1 x2 x3 x4 x5 x6 := by kernel_rfl
theorem e12q_3 (D : Int → Bool) (k a b x1 x2 x3 x4 x5 x6 : Int) : f12q D 3 k a b x1 x2 x3 x4 x5 x6 = m12_n 0 2 D k a b x1 x2 x3 x4 x5 x6 := by kernel_rfl
theorem e12q_4 (D : Int → Bool) (k a b x1 x2 x3 x4 x5 x6 : Int) : f12q D 4 k a b x1 x2 x3 x4 x5 x6 = m12_n 0 31 D k a b x1 x2 x3 x4 x5 x6 := by kernel_rfl
theorem e12q_5 (D : Int → Bool) (k a b x1 x2 x3 x4 x5 x6 : Int) : f12q D 5 k a b x1 x2 x3 x4 x5 x6 = m12_5 D k a b x1 x2 x3 x4 x5 x6 := by kernel_rfl
theorem e12q_6 (D : Int → Bool) (k a b x1 x2 x3 x4 x5 x6 : Int) : f12q D 6 k a b x1 x2 x3 x4 x5 x6 = m12_6 D k a b x1 x2 x3 x4 x5 x6 := by kernel_rfl
theorem e12q_7 (D : Int → Bool) (k a b x1 x2 x3 x4 x5 x6 : Int) : f12q D 7 k a b x1 x2 x3 x4 x5 x6 = m12_7 D k a b x1 x2 x3 x4 x5 x6 := by kernel_rfl
theorem e12q_u (k a b x1 x2 x3 x4 x5 x6 : Int) : f12u k a b x1 x2 x3 x4 x5 x6 = onlyI (outK k) (onlyI (outK k) (ee 2)) := by kernel_rfl

def put13 (n : Int) (out : List Int) (c : List Int → En) : En := bif decide (n < 0) then c (out ++ [w16 (w64 (32767 + n))]) else c (out ++ [w16 n])
def num13 (low high n : Int) (out : List Int) (c : List Int → En) : En := bif decide (n ≥ low) then bif !decide (n ≤ high) then ee 3 else put13 n out c else ee 3
def lit13 (x y : Int) (out : List Int) (c : List Int → En) : En := bif decide (x > 32767) then ee 3 else bif decide (y > 32767) then ee 3 else c (out ++ [x, y])
def un13 (b : Bool) (c : En) : En := bif b then ee 2 else c
def m13_0 (D : Int → Bool) (k a b x1 x2 x3 x4 x5 x6 : Int) : En := onlyI (D k) <| onlyI (D k) <| un13 (a != 0) <| un13 (b != 0) <| un13 (!zz x1 x2) <| un13 (!zz x3 x4) <| un13 (!zz x5 x6) <| some ([w16 k], 0, ())
def m13_n (low high : Int) (D : Int → Bool) (k a b x1 x2 x3 x4 x5 x6 : Int) : En := onlyI (D k) <| onlyI (D k) <| un13 (b != 0) <| un13 (!zz x1 x2) <| un13 (!zz x3 x4) <| un13 (!zz x5 x6) <| num13 low high a [w16 k] fun out => some (out, 0, ())
def m13_5 (D : Int → Bool) (k a b x1 x2 x3 x4 x5 x6 : Int) : En := onlyI (D k) <| onlyI (D k) <| un13 (!zz x1 x2) <| un13 (!zz x3 x4) <| un13 (!zz x5 x6) <| num13 0 31 a [w16 k] fun out => num13 0 31 b out fun out => some (out, 0, ())
def m13_6 (D : Int → Bool) (k a b x1 x2 x3 x4 x5 x6 : Int) : En := onlyI (D k) <| onlyI (D k) <| un13 (a != 0) <| un13 (b != 0) <| un13 (!zz x3 x4) <| un13 (!zz x5 x6) <| lit13 x1 x2 [w16 k] fun out => some (out, 0, ())
def m13_7 (D : Int → Bool) (k a b x1 x2 x3 x4 x5 x6 : Int) : En := onlyI (D k) <| onlyI (D k) <| un13 (a != 0) <| un13 (b != 0) <| lit13 x1 x2 [w16 k] fun out => lit13 x3 x4 out fun out => lit13 x5 x6 out fun out => some (out, 0, ())
theorem e13q_0 (D : Int → Bool) (k a b x1 x2 x3 x4 x5 x6 : Int) : f13q D 0 k a b x1 x2 x3 x4 x5 x6 = m13_0 D k a b x1 x2 x3 x4 x5 x6 := by kernel_rfl
theorem e13q_1 (D : Int → Bool) (k a b x1 x2 x3 x4 x5 x6 : Int) : f13q D 1 k a b x1 x2 x3 x4 x5 x6 = m13_n 0 2047 D k a b x1 x2 x3 x4 x5 x6 := by kernel_rfl
theorem e13q_2 (D : Int → Bool) (k a b x1 x2 x3 x4 x5 x6 : Int) : f13q D 2 k a b x1 x2 x3 x4 x5 x6 = m13_n (-56) 56 D k a b x1 x2 x3 x4 x5 x6 := by kernel_rfl
theorem e13q_3 (D : Int → Bool) (k a b x1 x2 x3 x4 x5 x6 : Int) : f13q D 3 k a b x1 x2 x3 x4 x5 x6 = m13_n 0 2 D k a b x1 x2 x3 x4 x5 x6 := by kernel_rfl
theorem e13q_4 (D : Int → Bool) (k a b x1 x2 x3 x4 x5 x6 : Int) : f13q D 4 k a b x1 x2 x3 x4 x5 x6 = m13_n 0 31 D k a b x1 x2 x3 x4 x5 x6 := by kernel_rfl
theorem e13q_5 (D : Int → Bool) (k a b x1 x2 x3 x4 x5 x6 : Int) : f13q D 5 k a b x1 x2 x3 x4 x5 x6 = m13_5 D k a b x1 x2 x3 x4 x5 x6 := by kernel_rfl
theorem e13q_6 (D : Int → Bool) (k a b x1 x2 x3 x4 x5 x6 : Int) : f13q D 6 k a b x1 x2 x3 x4 x5 x6 = m13_6 D k a b x1 x2 x3 x4 x5 x6 := by kernel_rfl
theorem e13q_7 (D : Int → Bool) (k a b x1 x2 x3 x4 x5 x6 : Int) : f13q D 7 k a b x1 x2 x3 x4 x5 x6 = m13_7 D k a b x1 x2 x3 x4 x5 x6 := by kernel_rfl
theorem e13q_u (k a b x1 x2 x3 x4 x5 x6 : Int) : f13u k a b x1 x2 x3 x4 x5 x6 = onlyI (outK k) (ee 2) := by kernel_rfl
end Go.Pv
