/-
  The laws IcodeBack, IcodeLists, IcodeWhole and IcodePrefixes, run with what is known of their callees.
-/
import Derived.Test.YtidbhhfilhognaaR1All
namespace Go.Pv
open Go.Proofs
set_option maxRecDepth 1000000
abbrev GSm := Sig.den sSame → Option (Shape.den (resShape 0 [.val .bool]))
abbrev GSw := Sig.den [.val (.slice tW), .val (.slice tW)] → Option (Shape.den (resShape 0 [.val .bool]))
abbrev GLi := Sig.den sLi → Option (Shape.den (resShape 0 rLw))
abbrev GLw := Sig.den sLw → Option (Shape.den (resShape 0 rLi))
structure GT where
  g12 : GE
  g15 : GD
  D : Int → Bool
  g17 : Int → Int
  g14 : GSw
  g29 : GSm
  g30 : GLi
  g31 : GLi
  g28 : GLw
  g32 : GLw
def specsT (g : GT) (R : Type) (f : FuncId) : Option (List V → Mem → Nat → (Eff → Option R) → Option R) :=
  match f with
  | 11 => some (constE (.bool true))
  | 12 => some (specE sEnc rEnc g.g12)
  | 14 => some (specE [.val (.slice tW), .val (.slice tW)] [.val .bool] g.g14)
  | 15 => some (specE sDec rDec g.g15)
  | 17 => some (specD sOp [.val tI] (fun x => g.D x.1) fun x => (g.g17 x.1, ()))
  | 28 => some (specE sLw rLi g.g28)
  | 29 => some (specE sSame [.val .bool] g.g29)
  | 30 => some (specE sLi rLw g.g30)
  | 31 => some (specE sLi rLw g.g31)
  | 32 => some (specE sLw rLi g.g32)
  | _ => none
noncomputable def callT (g : GT) (R : Type) : CallE R := callsE Try.prog tt (specsT g R) 20
abbrev Bo := Option (Bool × Unit)
def ans (b : Bool) : Bo := some (b, ())

@[reducible] def sLL : Sig := [.val (.slice tInstr), .val (.slice tW)]
noncomputable abbrev e8 (g : GT) (l : List In) (c : List Int) : Bo := evalF Try.prog tt (callT g) [] 8 sLL [.val .bool] (l, c, ())
def fit2000 (l : List In) (c : List Int) (k : Bo) : Bo := bif decide ((l.length : Int) > 2000) then ans true else bif decide ((c.length : Int) > 2000) then ans true else k
theorem e8_eq (g : GT) (l : List In) (c : List Int) : e8 g l c = fit2000 l c (match g.g30 (l, ()) with
    | none => none
    | some a => match g.g31 (l, ()) with
      | none => none
      | some b => match g.g28 (c, ()) with
        | none => none
        | some d => match g.g32 (c, ()) with
          | none => none
          | some h => bif a.2.1 == b.2.1 then bif a.2.2.1 == b.2.2.1 then (match g.g14 (a.1, b.1, ()) with
              | none => none
              | some s => bif s.1 then bif d.2.1 == h.2.1 then bif d.2.2.1 == h.2.2.1 then (match g.g29 (d.1, h.1, ()) with
                | none => none
                | some z => ans z.1) else ans false else ans false else ans false) else ans false else ans false) := by kernel_rfl

noncomputable abbrev e9 (g : GT) (l : List In) (c : List Int) : Bo := evalF Try.prog tt (callT g) [] 9 sLL [.val .bool] (l, c, ())
def tail9 (g : GT) (c : List Int) : Bo := match g.g28 (c, ()) with
  | none => none
  | some d => bif d.2.2.1 != 0 then ans ((d.1.length : Int) == 0) else match g.g30 (d.1, ()) with
    | none => none
    | some h => bif h.2.2.1 == 0 then (match g.g14 (h.1, c, ()) with
      | none => none
      | some s => ans s.1) else ans false
theorem e9_eq (g : GT) (l : List In) (c : List Int) : e9 g l c = fit2000 l c (match g.g30 (l, ()) with
    | none => none
    | some a => bif a.2.2.1 == 0 then (match g.g28 (a.1, ()) with
      | none => none
      | some b => bif b.2.2.1 != 0 then ans false else match g.g29 (b.1, l, ()) with
        | none => none
        | some s => bif !s.1 then ans false else tail9 g c) else tail9 g c) := by kernel_rfl

@[reducible] def sBack : Sig := [.agg tInstr, .val (.slice tW), .val tI]
noncomputable abbrev e5 (g : GT) (x : In) (r : List Int) (i : Int) : Bo := evalF Try.prog tt (callT g) [] 5 sBack [.val .bool] (x, r, i, ())
def tail5 (g : GT) (r : List Int) (i : Int) : Bo := match g.g15 (r, i, ()) with
  | none => none
  | some k => bif k.2.2.1 != 0 then (bif eqIn k.1 (0, 0, 0, (0, 0), (0, 0), (0, 0)) then ans (k.2.1 == 0) else ans false) else match g.g12 (k.1, ()) with
    | none => none
    | some b => bif b.2.1 == 0 then bif decide (i ≥ 0) then bif decide (i ≤ k.2.1) then bif decide (k.2.1 ≤ (r.length : Int)) then
        bif decide (0 ≤ i) && decide (i ≤ k.2.1) && decide (k.2.1 ≤ (r.length : Int)) then (match g.g14 (b.1, sliceFz r i.toNat (some k.2.1.toNat), ()) with
          | none => none
          | some s => ans s.1) else none
      else ans false else ans false else ans false else ans false
theorem e5_eq (g : GT) (x : In) (r : List Int) (i : Int) : e5 g x r i = match g.g12 (x, ()) with
    | none => none
    | some y => bif y.2.1 == 0 then bif decide ((y.1 ++ r).length ≤ maxRow) then (match g.g15 (y.1 ++ r, 0, ()) with
      | none => none
      | some z => bif z.2.2.1 != 0 then ans false else bif !eqIn z.1 x then ans false else bif z.2.1 != (y.1.length : Int) then ans false else
        bif g.D x.1 then bif (y.1.length : Int) != g.g17 x.1 then ans false else tail5 g r i else none) else none else tail5 g r i := by kernel_rfl

def loop10 : LoopSpec := ⟨0, [(0, .val (.slice tInstr)), (5, .row tW), (8, .val tI), (9, .val tI), (10, .val tI)], [(0, .val (.slice tInstr)), (5, .row tW), (8, .val tI), (9, .val tI), (10, .val tI)], []⟩
noncomputable def code10 : Code := (Try.f10.body).getD .skip
noncomputable def body10 : Code := (loopBody 0 code10).getD .skip
abbrev X10 := List In × List Int × Int × Int × Int × Unit
noncomputable def S10 (g : GT) : X10 → Option (X10 ⊕ (X10 ⊕ Unit)) := stepE tt (callT g) Try.f10.ntmps (loopHook tt (callT g) Try.f10.ntmps 100000 [loop10] 4) 100000 loop10 body10
@[reducible] def sPre : Sig := [.val (.slice tInstr), .val tW]
noncomputable abbrev e10 (g : GT) (l : List In) (n : Int) : Bo := evalF Try.prog tt (callT g) [loop10] 10 sPre [.val .bool] (l, n, ())
theorem S10_eq (g : GT) (l : List In) (c : List Int) (cut at_ m : Int) : S10 g (l, c, cut, at_, m, ()) = bif decide (m < (l.length : Int)) then bif inRange m l.length then
    bif g.D (l.getD m.toNat tInstr.dflt).1 then bif decide (w64 (at_ + g.g17 (l.getD m.toNat tInstr.dflt).1) ≤ cut) then bif inRange m l.length then
      bif g.D (l.getD m.toNat tInstr.dflt).1 then some (.inl (l, c, cut, w64 (at_ + g.g17 (l.getD m.toNat tInstr.dflt).1), w64 (m + 1), ())) else none else none
    else some (.inr (.inl (l, c, cut, at_, m, ()))) else none else none else some (.inr (.inl (l, c, cut, at_, m, ()))) := by kernel_rfl
theorem e10_eq (g : GT) (l : List In) (n : Int) : e10 g l n = bif decide ((l.length : Int) > 500) then ans true else match g.g30 (l, ()) with
    | none => none
    | some a => bif a.2.2.1 != 0 then ans true else bif decide (w64 ((a.1.length : Int) + 1) = 0) then none else match lim (S10 g) (l, a.1, (w64 n).tmod (w64 ((a.1.length : Int) + 1)), 0, 0, ()) with
      | none => none
      | some (.inr _) => none
      | some (.inl y) => bif decide (0 ≤ y.2.2.1) && decide (y.2.2.1 ≤ ((lenOf y.2.1 0 none : Nat) : Int)) then (match g.g28 (cut y.2.1 0 (some (y.2.2.1.toNat - 0)), ()) with
        | none => none
        | some d => bif y.2.2.2.1 == y.2.2.1 then bif d.2.2.1 == 0 then bif decide (0 ≤ y.2.2.2.2.1) && decide (y.2.2.2.2.1 ≤ (y.1.length : Int)) then (match g.g29 (d.1, sliceFz y.1 0 (some y.2.2.2.2.1.toNat), ()) with
            | none => none
            | some z => ans z.1) else none else ans false
          else bif d.2.2.1 == 9 then ans (d.2.1 == y.2.2.2.1) else ans false) else none := by kernel_rfl
end Go.Pv
