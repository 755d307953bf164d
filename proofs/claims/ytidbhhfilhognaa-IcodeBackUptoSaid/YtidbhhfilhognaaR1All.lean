/-
  EncodeAll, DecodeAll and Same: what they compute.
-/
import Derived.Test.YtidbhhfilhognaaR1EncSem
namespace Go.Pv
open Go.Proofs
set_option maxRecDepth 1000000
abbrev In := tInstr.den
@[reducible] def sLi : Sig := [.val (.slice tInstr)]
@[reducible] def sLw : Sig := [.val (.slice tW)]
@[reducible] def rLw : Sig := [.row tW, .val tI, .val tI]
@[reducible] def rLi : Sig := [.row tInstr, .val tI, .val tI]
abbrev GE := Sig.den sEnc → Option (Shape.den (resShape 0 rEnc))
abbrev GD := Sig.den sDec → Option (Shape.den (resShape 0 rDec))
structure GA where
  g12 : GE
  g13 : GE
  g15 : GD
  g16 : GD
def specsA (g : GA) (R : Type) (f : FuncId) : Option (List V → Mem → Nat → (Eff → Option R) → Option R) :=
  match f with
  | 12 => some (specE sEnc rEnc g.g12)
  | 13 => some (specE sEnc rEnc g.g13)
  | 15 => some (specE sDec rDec g.g15)
  | 16 => some (specE sDec rDec g.g16)
  | _ => none
noncomputable def callA (g : GA) (R : Type) : CallE R := callsE Try.prog tt (specsA g R) 20

def loop30 : LoopSpec := ⟨0, [(0, .val (.slice tInstr)), (5, .row tW), (10, .val tI), (11, .val tI)], [(5, .row tW)], [(2, .row tW), (3, .val tI), (4, .val tI)]⟩
noncomputable def code30 : Code := (Try.f30.body).getD .skip
noncomputable def body30 : Code := (loopBody 0 code30).getD .skip
abbrev X30 := List In × List Int × Int × Int × Unit
abbrev O30 := List Int × Unit
abbrev T30 := List Int × Int × Int × Unit
noncomputable def S30 (g : GA) : X30 → Option (X30 ⊕ (O30 ⊕ T30)) := stepE tt (callA g) Try.f30.ntmps (loopHook tt (callA g) Try.f30.ntmps 100000 [loop30] 4) 100000 loop30 body30
noncomputable abbrev e30 (g : GA) (l : List In) : Option T30 := evalF Try.prog tt (callA g) [loop30] 30 sLi rLw (l, ())
def st30 (l : List In) (out : List Int) (n i : Int) (y : List Int × Int × Unit) : Option (X30 ⊕ (O30 ⊕ T30)) :=
  bif y.2.1 != 0 then some (.inr (.inr ([], i, y.2.1, ()))) else bif decide ((out ++ y.1).length ≤ maxRow) then some (.inl (l, out ++ y.1, n, w64 (i + 1), ())) else none
theorem S30_eq (g : GA) (l : List In) (out : List Int) (n i : Int) : S30 g (l, out, n, i, ()) = bif decide (i < n) then bif inRange i l.length then
    (match g.g12 (l.getD (i.toNat + 0) tInstr.dflt, ()) with
    | none => none
    | some y => bif y.2.1 == 0 then bif decide (w64 ((out.length : Int) + (y.1.length : Int)) > 1024) then some (.inr (.inr ([], i, 4, ()))) else st30 l out n i y else st30 l out n i y)
    else none else some (.inr (.inl (out, ()))) := by kernel_rfl
theorem e30_eq (g : GA) (l : List In) : e30 g l = match lim (S30 g) (l, [], (l.length : Int), 0, ()) with
    | none => none
    | some (.inl y) => some (y.1, 0, 0, ())
    | some (.inr y) => some (y.1, y.2.1, y.2.2.1, ()) := by kernel_rfl

def loop31 : LoopSpec := ⟨0, [(0, .val (.slice tInstr)), (5, .row tW), (6, .val tI)], [(5, .row tW)], [(2, .row tW), (3, .val tI), (4, .val tI)]⟩
noncomputable def code31 : Code := (Try.f31.body).getD .skip
noncomputable def body31 : Code := (loopBody 0 code31).getD .skip
abbrev X31 := List In × List Int × Int × Unit
noncomputable def S31 (g : GA) : X31 → Option (X31 ⊕ (O30 ⊕ T30)) := stepE tt (callA g) Try.f31.ntmps (loopHook tt (callA g) Try.f31.ntmps 100000 [loop31] 4) 100000 loop31 body31
noncomputable abbrev e31 (g : GA) (l : List In) : Option T30 := evalF Try.prog tt (callA g) [loop31] 31 sLi rLw (l, ())
theorem S31_eq (g : GA) (l : List In) (out : List Int) (i : Int) : S31 g (l, out, i, ()) = bif decide (i < (l.length : Int)) then bif inRange i l.length then
    (match g.g13 (l.getD (i.toNat + 0) tInstr.dflt, ()) with
    | none => none
    | some y => bif y.2.1 != 0 then some (.inr (.inr ([], i, y.2.1, ()))) else bif decide (w64 ((out.length : Int) + (y.1.length : Int)) > 1024) then some (.inr (.inr ([], i, 4, ()))) else
      bif decide ((out ++ y.1).length ≤ maxRow) then some (.inl (l, out ++ y.1, w64 (i + 1), ())) else none)
    else none else some (.inr (.inl (out, ()))) := by kernel_rfl
theorem e31_eq (g : GA) (l : List In) : e31 g l = match lim (S31 g) (l, [], 0, ()) with
    | none => none
    | some (.inl y) => some (y.1, 0, 0, ())
    | some (.inr y) => some (y.1, y.2.1, y.2.2.1, ()) := by kernel_rfl

def loop28 : LoopSpec := ⟨0, [(0, .val (.slice tW)), (5, .row tInstr), (6, .val tI)], [(5, .row tInstr)], [(2, .row tInstr), (3, .val tI), (4, .val tI)]⟩
noncomputable def code28 : Code := (Try.f28.body).getD .skip
noncomputable def body28 : Code := (loopBody 0 code28).getD .skip
abbrev X28 := List Int × List In × Int × Unit
abbrev O28 := List In × Unit
abbrev T28 := List In × Int × Int × Unit
noncomputable def S28 (g : GA) : X28 → Option (X28 ⊕ (O28 ⊕ T28)) := stepE tt (callA g) Try.f28.ntmps (loopHook tt (callA g) Try.f28.ntmps 100000 [loop28] 4) 100000 loop28 body28
noncomputable abbrev e28 (g : GA) (c : List Int) : Option T28 := evalF Try.prog tt (callA g) [loop28] 28 sLw rLi (c, ())
def st28 (G : GD) (c : List Int) (out : List In) (i : Int) : Option (X28 ⊕ (O28 ⊕ T28)) := bif decide (i < (c.length : Int)) then
    (match G (c, i, ()) with
    | none => none
    | some y => bif y.2.2.1 != 0 then some (.inr (.inr ([], i, y.2.2.1, ()))) else bif decide ((out ++ [y.1]).length ≤ maxRow) then some (.inl (c, out ++ [y.1], y.2.1, ())) else none)
    else some (.inr (.inl (out, ())))
theorem S28_eq (g : GA) (c : List Int) (out : List In) (i : Int) : S28 g (c, out, i, ()) = st28 g.g15 c out i := by kernel_rfl
theorem e28_eq (g : GA) (c : List Int) : e28 g c = bif decide ((c.length : Int) > 1024) then some ([], 0, 4, ()) else match lim (S28 g) (c, [], 0, ()) with
    | none => none
    | some (.inl y) => some (y.1, 0, 0, ())
    | some (.inr y) => some (y.1, y.2.1, y.2.2.1, ()) := by kernel_rfl

noncomputable def code32 : Code := (Try.f32.body).getD .skip
noncomputable def body32 : Code := (loopBody 0 code32).getD .skip
noncomputable def S32 (g : GA) : X28 → Option (X28 ⊕ (O28 ⊕ T28)) := stepE tt (callA g) Try.f32.ntmps (loopHook tt (callA g) Try.f32.ntmps 100000 [loop28] 4) 100000 loop28 body32
noncomputable abbrev e32 (g : GA) (c : List Int) : Option T28 := evalF Try.prog tt (callA g) [loop28] 32 sLw rLi (c, ())
theorem S32_eq (g : GA) (c : List Int) (out : List In) (i : Int) : S32 g (c, out, i, ()) = st28 g.g16 c out i := by kernel_rfl
theorem e32_eq (g : GA) (c : List Int) : e32 g c = bif decide ((c.length : Int) > 1024) then some ([], 0, 4, ()) else match lim (S32 g) (c, [], 0, ()) with
    | none => none
    | some (.inl y) => some (y.1, 0, 0, ())
    | some (.inr y) => some (y.1, y.2.1, y.2.2.1, ()) := by kernel_rfl

/-! ### Same -/
def eqIn (y z : In) : Bool := y.1 == z.1 && (y.2.1 == z.2.1 && (y.2.2.1 == z.2.2.1 && ((y.2.2.2.1.1 == z.2.2.2.1.1 && (y.2.2.2.1.2 == z.2.2.2.1.2 && true)) &&
  ((y.2.2.2.2.1.1 == z.2.2.2.2.1.1 && (y.2.2.2.2.1.2 == z.2.2.2.2.1.2 && true)) && ((y.2.2.2.2.2.1 == z.2.2.2.2.2.1 && (y.2.2.2.2.2.2 == z.2.2.2.2.2.2 && true)) && true)) && true)))
theorem eqIn_self (x : In) : eqIn x x = true := by simp [eqIn]
def loop29 : LoopSpec := ⟨0, [(0, .val (.slice tInstr)), (1, .val (.slice tInstr)), (5, .val tI)], [], [(4, .val .bool)]⟩
noncomputable def code29 : Code := (Try.f29.body).getD .skip
noncomputable def body29 : Code := (loopBody 0 code29).getD .skip
abbrev X29 := List In × List In × Int × Unit
noncomputable def S29 : X29 → Option (X29 ⊕ (Unit ⊕ (Bool × Unit))) := stepE tt call0 Try.f29.ntmps (loopHook tt call0 Try.f29.ntmps 100000 [loop29] 4) 100000 loop29 body29
@[reducible] def sSame : Sig := [.val (.slice tInstr), .val (.slice tInstr)]
noncomputable abbrev e29 (x : List In × List In × Unit) : Option (Bool × Unit) := evalF Try.prog tt call0 [loop29] 29 sSame [.val .bool] x
theorem S29_eq (l1 l2 : List In) (i : Int) : S29 (l1, l2, i, ()) = bif decide (i < (l1.length : Int)) then bif inRange i l1.length then bif inRange i l2.length then
    bif !eqIn (l1.getD i.toNat tInstr.dflt) (l2.getD i.toNat tInstr.dflt) then some (.inr (.inr (false, ()))) else some (.inl (l1, l2, IntKind.i64.wrap (i + 1), ()))
    else none else none else some (.inr (.inl ())) := by kernel_rfl
theorem e29_eq (l1 l2 : List In) : e29 (l1, l2, ()) = bif (l1.length : Int) != (l2.length : Int) then some (false, ()) else
    match lim S29 (l1, l2, 0, ()) with
    | none => none
    | some (.inl _) => some (true, ())
    | some (.inr y) => some (y.1, ()) := by kernel_rfl
end Go.Pv
