/-
  Decode, of the program and of the reference: what they compute, kind by kind.
-/
import Derived.Test.YtdfbjdchnkhiiaaDoorR3Base
namespace Go.Pv
open Go.Proofs
set_option maxRecDepth 1000000
set_option linter.unusedVariables false
@[reducible] def sOp : Sig := [.val (.int .u8)]
/-- what is known of operations of one kind -/
def specsD (D : Int → Bool) (q len : Int) (R : Type) (f : FuncId) : Option (List V → Mem → Nat → (Eff → Option R) → Option R) :=
  match f with
  | 55 => some (specD sOp [.val .bool] (fun x => D x.1) fun _ => (true, ()))
  | 60 => some (specD sOp [.val (.int .u8)] (fun x => D x.1) fun _ => (q, ()))
  | 39 => some (specD sOp [.val (.int .u8)] (fun x => D x.1) fun _ => (q, ()))
  | 56 => some (specD sOp [.val tI] (fun x => D x.1) fun _ => (len, ()))
  | 40 => some (specD sOp [.val tI] (fun x => D x.1) fun _ => (len, ()))
  | _ => none
noncomputable def callD (D : Int → Bool) (q len : Int) (R : Type) : CallE R := callsE Tryd.prog tt (specsD D q len R) 20
@[reducible] def sDec : Sig := [.val (.slice tW), .val tI]
@[reducible] def rDec : Sig := [.agg tInstr, .val tI, .val tI]
noncomputable abbrev e15 (D : Int → Bool) (q len : Int) (l : List Int) (i : Int) := evalF Tryd.prog tt (callD D q len) [] 33 sDec rDec (l, i, ())
noncomputable abbrev e16 (D : Int → Bool) (q len : Int) (l : List Int) (i : Int) := evalF Tryd.prog tt (callD D q len) [] 16 sDec rDec (l, i, ())
noncomputable abbrev e15u (l : List Int) (i : Int) := evalF Tryd.prog tt callU [] 33 sDec rDec (l, i, ())

abbrev Dr := Option (tInstr.den × Int × Int × Unit)
def w64 (n : Int) : Int := IntKind.i64.wrap n
def wd (l : List Int) (i : Int) : Int := l.getD i.toNat 0
def er (e : Int) : Dr := some ((0, 0, 0, (0, 0), (0, 0), (0, 0)), 0, e, ())
def rd (l : List Int) (i : Int) (k : Int → Dr) : Dr := bif inRange i l.length then k (wd l i) else none
def fin (e : Int) (x : tInstr.den) (nx : Int) : Dr := bif e != 0 then er e else some (x, nx, 0, ())

def word15 (l : List Int) (nx e : Int) (k : Int → Int → Int → Dr) : Dr := rd l nx fun w => bif decide (w > 32767) then k w (w64 (nx + 1)) 3 else k w (w64 (nx + 1)) e
def test15 (low high : Int) (n nx e : Int) (k : Int → Int → Int → Dr) : Dr := bif decide (n < low) then k n nx 3 else bif decide (n > high) then k n nx 3 else k n nx e
def num15 (low high : Int) (D : Int → Bool) (op : Int) (l : List Int) (nx e : Int) (k : Int → Int → Int → Dr) : Dr := word15 l nx e fun w nx e =>
  bif D op then bif (bif decide (low < 0) then decide (w64 w > high) else false) then
      (bif w64 (w64 w - 32767) == 0 then test15 low high (w64 (w64 w - 32767)) nx 3 k else test15 low high (w64 (w64 w - 32767)) nx e k)
    else test15 low high (w64 w) nx e k else none
def pre15 (D : Int → Bool) (len : Int) (l : List Int) (i : Int) (k : Int → Dr) : Dr :=
  bif decide (i < 0) then er 3 else bif decide (i ≥ (l.length : Int)) then er 3 else bif inRange i l.length then
    bif D (IntKind.u8.wrap (if 255 < wd l i then 255 else wd l i)) then bif inRange i l.length then bif D (IntKind.u8.wrap (wd l i)) then
      bif decide (w64 ((l.length : Int) - i) < len) then er 9 else bif D (IntKind.u8.wrap (wd l i)) then k (IntKind.u8.wrap (wd l i)) else none
    else none else none else none else none

def n15_0 (D : Int → Bool) (l : List Int) (i : Int) : Dr := pre15 D 1 l i fun op => some ((op, 0, 0, (0, 0), (0, 0), (0, 0)), w64 (i + 1), 0, ())
def n15_n (low high : Int) (D : Int → Bool) (l : List Int) (i : Int) : Dr := pre15 D 2 l i fun op => num15 low high D op l (w64 (i + 1)) 0 fun n nx e => fin e (op, n, 0, (0, 0), (0, 0), (0, 0)) nx
def n15_5 (D : Int → Bool) (l : List Int) (i : Int) : Dr := pre15 D 3 l i fun op => num15 0 31 D op l (w64 (i + 1)) 0 fun n nx e => num15 0 31 D op l nx e fun m nx e => fin e (op, n, m, (0, 0), (0, 0), (0, 0)) nx
def n15_6 (D : Int → Bool) (l : List Int) (i : Int) : Dr := pre15 D 3 l i fun op => word15 l (w64 (i + 1)) 0 fun a nx e => word15 l nx e fun b nx e => fin e (op, 0, 0, (a, b), (0, 0), (0, 0)) nx
def n15_7 (D : Int → Bool) (l : List Int) (i : Int) : Dr := pre15 D 7 l i fun op => word15 l (w64 (i + 1)) 0 fun a nx e => word15 l nx e fun b nx e => word15 l nx e fun c nx e => word15 l nx e fun d nx e =>
  word15 l nx e fun f nx e => word15 l nx e fun g nx e => fin e (op, 0, 0, (a, b), (c, d), (f, g)) nx

theorem e15_0 (D : Int → Bool) (l : List Int) (i : Int) : e15 D 0 1 l i = n15_0 D l i := by kernel_rfl
theorem e15_1 (D : Int → Bool) (l : List Int) (i : Int) : e15 D 1 2 l i = n15_n 0 2047 D l i := by kernel_rfl
theorem e15_2 (D : Int → Bool) (l : List Int) (i : Int) : e15 D 2 2 l i = n15_n (-56) 56 D l i := by kernel_rfl
theorem e15_3 (D : Int → Bool) (l : List Int) (i : Int) : e15 D 3 2 l i = n15_n 0 2 D l i := by kernel_rfl
theorem e15_4 (D : Int → Bool) (l : List Int) (i : Int) : e15 D 4 2 l i = n15_n 0 31 D l i := by kernel_rfl
theorem e15_5 (D : Int → Bool) (l : List Int) (i : Int) : e15 D 5 3 l i = n15_5 D l i := by kernel_rfl
theorem e15_6 (D : Int → Bool) (l : List Int) (i : Int) : e15 D 6 3 l i = n15_6 D l i := by kernel_rfl
theorem e15_7 (D : Int → Bool) (l : List Int) (i : Int) : e15 D 7 7 l i = n15_7 D l i := by kernel_rfl

def num16 (q low high : Int) (l : List Int) (i : Int) (k : Int → Dr) : Dr :=
  let fits (n : Int) : Dr := bif decide (n ≥ low) then bif !decide (n ≤ high) then er 3 else k n else er 3
  rd l i fun w => bif (q == 2) then (bif decide (w64 w ≥ 16384) then bif decide (w64 w < 32767) then fits (w64 (w64 w - 32767)) else fits (w64 w) else fits (w64 w)) else fits (w64 w)
def dbl16 (l : List Int) (i j : Int) (k : Int → Int → Dr) : Dr := rd l i fun a => rd l j fun b => bif decide (a > 32767) then er 3 else bif decide (b > 32767) then er 3 else k a b
def pre16 (D : Int → Bool) (len : Int) (l : List Int) (i : Int) (k : Int → Dr) : Dr :=
  bif decide (i < 0) then er 3 else bif decide (i ≥ (l.length : Int)) then er 3 else bif inRange i l.length then
    bif decide (wd l i < 1) then er 2 else bif inRange i l.length then bif decide (wd l i > 38) then er 2 else bif inRange i l.length then
      bif D (IntKind.u8.wrap (wd l i)) then bif D (IntKind.u8.wrap (wd l i)) then bif decide (w64 ((l.length : Int) - i) < len) then er 9 else k (IntKind.u8.wrap (wd l i))
    else none else none else none else none else none
def end16 (D : Int → Bool) (len : Int) (i : Int) (x : tInstr.den) : Dr := bif D x.1 then some (x, w64 (i + len), 0, ()) else none
def n16_0 (D : Int → Bool) (l : List Int) (i : Int) : Dr := pre16 D 1 l i fun op => end16 D 1 i (op, 0, 0, (0, 0), (0, 0), (0, 0))
def n16_n (q low high : Int) (D : Int → Bool) (l : List Int) (i : Int) : Dr := pre16 D 2 l i fun op => num16 q low high l (w64 (w64 (i + 1) + 0)) fun n => end16 D 2 i (op, n, 0, (0, 0), (0, 0), (0, 0))
def n16_5 (D : Int → Bool) (l : List Int) (i : Int) : Dr := pre16 D 3 l i fun op => num16 5 0 31 l (w64 (w64 (i + 1) + 0)) fun n => num16 5 0 31 l (w64 (w64 (i + 1) + 1)) fun m => end16 D 3 i (op, n, m, (0, 0), (0, 0), (0, 0))
def n16_6 (D : Int → Bool) (l : List Int) (i : Int) : Dr := pre16 D 3 l i fun op => dbl16 l (w64 (w64 (i + 1) + 0)) (w64 (w64 (i + 2) + 0)) fun a b => end16 D 3 i (op, 0, 0, (a, b), (0, 0), (0, 0))
def n16_7 (D : Int → Bool) (l : List Int) (i : Int) : Dr := pre16 D 7 l i fun op => dbl16 l (w64 (w64 (i + 1) + 0)) (w64 (w64 (i + 2) + 0)) fun a b =>
  dbl16 l (w64 (w64 (i + 1) + 2)) (w64 (w64 (i + 2) + 2)) fun c d => dbl16 l (w64 (w64 (i + 1) + 4)) (w64 (w64 (i + 2) + 4)) fun f g => end16 D 7 i (op, 0, 0, (a, b), (c, d), (f, g))
theorem e16_0 (D : Int → Bool) (l : List Int) (i : Int) : e16 D 0 1 l i = n16_0 D l i := by kernel_rfl
theorem e16_1 (D : Int → Bool) (l : List Int) (i : Int) : e16 D 1 2 l i = n16_n 1 0 2047 D l i := by kernel_rfl
theorem e16_2 (D : Int → Bool) (l : List Int) (i : Int) : e16 D 2 2 l i = n16_n 2 (-56) 56 D l i := by kernel_rfl
theorem e16_3 (D : Int → Bool) (l : List Int) (i : Int) : e16 D 3 2 l i = n16_n 3 0 2 D l i := by kernel_rfl
theorem e16_4 (D : Int → Bool) (l : List Int) (i : Int) : e16 D 4 2 l i = n16_n 4 0 31 D l i := by kernel_rfl
theorem e16_5 (D : Int → Bool) (l : List Int) (i : Int) : e16 D 5 3 l i = n16_5 D l i := by kernel_rfl
theorem e16_6 (D : Int → Bool) (l : List Int) (i : Int) : e16 D 6 3 l i = n16_6 D l i := by kernel_rfl
theorem e16_7 (D : Int → Bool) (l : List Int) (i : Int) : e16 D 7 7 l i = n16_7 D l i := by kernel_rfl
theorem e15u_eq (l : List Int) (i : Int) : e15u l i = bif decide (i < 0) then er 3 else bif decide (i ≥ (l.length : Int)) then er 3 else bif inRange i l.length then
    bif outK (IntKind.u8.wrap (if 255 < wd l i then 255 else wd l i)) then er 2 else none else none := by kernel_rfl
end Go.Pv
