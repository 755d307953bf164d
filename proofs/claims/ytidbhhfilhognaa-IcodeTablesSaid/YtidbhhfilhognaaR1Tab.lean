/-
  The law IcodeTables, run with what is known of its callees.
-/
import Derived.Test.YtidbhhfilhognaaR1DecFn
namespace Go.Pv
open Go.Proofs
set_option maxRecDepth 1000000
@[reducible] def tForm : Ty := .pair (.int .u8) (.pair (.int .u8) (.pair (.int .u8) (.pair (.int .u8) .bool)))
structure G6 where
  D : Int → Bool
  g18 : List ByteArray
  g19 : Int → Bool
  g20 : Int → Bool
  g21 : Int → ByteArray
  g17 : Int → Int
  g22 : Int → Int
  g23 : Int → Int
  g24 : Int → Int
  g25 : Int → tForm.den
  g26 : Int → tForm.den
  g27 : ByteArray → Int × Bool
def specs6 (g : G6) (R : Type) (f : FuncId) : Option (List V → Mem → Nat → (Eff → Option R) → Option R) :=
  match f with
  | 11 => some (constE (.bool true))
  | 18 => some (specD [] [.row .str] (fun _ => true) fun _ => (g.g18, ()))
  | 19 => some (specD sOp [.val .bool] (fun x => g.D x.1) fun x => (g.g19 x.1, ()))
  | 20 => some (specD sOp [.val .bool] (fun x => g.D x.1) fun x => (g.g20 x.1, ()))
  | 21 => some (specD sOp [.val .str] (fun x => g.D x.1) fun x => (g.g21 x.1, ()))
  | 17 => some (specD sOp [.val tI] (fun x => g.D x.1) fun x => (g.g17 x.1, ()))
  | 22 => some (specD sOp [.val tI] (fun x => g.D x.1) fun x => (g.g22 x.1, ()))
  | 23 => some (specD sOp [.val (.int .u8)] (fun x => g.D x.1) fun x => (g.g23 x.1, ()))
  | 24 => some (specD sOp [.val (.int .u8)] (fun x => g.D x.1) fun x => (g.g24 x.1, ()))
  | 25 => some (specD sOp [.agg tForm] (fun x => g.D x.1) fun x => (g.g25 x.1, ()))
  | 26 => some (specD sOp [.agg tForm] (fun x => g.D x.1) fun x => (g.g26 x.1, ()))
  | 27 => some (specD [.val .str] [.val (.int .u8), .val .bool] (fun _ => true) fun x => ((g.g27 x.1).1, (g.g27 x.1).2, ()))
  | _ => none
noncomputable def call6 (g : G6) (R : Type) : CallE R := callsE Try.prog tt (specs6 g R) 20
def loop6 : LoopSpec := ⟨0, [(0, .val (.int .u8)), (1, .val .str), (5, .row .str), (6, .val .str), (7, .val (.int .u8)), (8, .val tI)], [(0, .val (.int .u8)), (1, .val .str), (6, .val .str), (7, .val (.int .u8))], []⟩
noncomputable def code6 : Code := (Try.f6.body).getD .skip
noncomputable def body6 : Code := (loopBody 0 code6).getD .skip
abbrev X6 := Int × ByteArray × List ByteArray × ByteArray × Int × Int × Unit
abbrev Y6 := Int × ByteArray × ByteArray × Int × Unit
noncomputable def S6 (g : G6) : X6 → Option (X6 ⊕ (Y6 ⊕ Unit)) := stepE tt (call6 g) Try.f6.ntmps (loopHook tt (call6 g) Try.f6.ntmps 100000 [loop6] 4) 100000 loop6 body6
@[reducible] def sTab : Sig := [.val (.int .u8), .val .str]
noncomputable abbrev e6 (g : G6) (op : Int) (s : ByteArray) : Option (Bool × Unit) := evalF Try.prog tt (call6 g) [loop6] 6 sTab [.val .bool] (op, s, ())

def strNe (a b : ByteArray) : Bool := !(a.toList == b.toList)
def onlyIf {α : Type} (b : Bool) (o : Option α) : Option α := bif b then o else none
def ends6 (g : G6) (y : Y6) : Option (Bool × Unit) :=
  let x := g.g27 y.2.1
  let z := g.g27 y.2.2.1
  let found := y.2.2.2.1
  bif x.1 == found then
    bif x.2 == decide (found > 0) then
      bif z.2 == strNe y.2.2.1 ⟨#[]⟩ then
        bif !z.2 then some (true, ()) else some (z.1 == y.1, ())
      else some (false, ())
    else some (false, ())
  else some (false, ())
def rest6 (g : G6) (go : X6 → Option (Y6 ⊕ Unit)) (op : Int) (s : ByteArray) (name : ByteArray) : Option (Bool × Unit) :=
  onlyIf (g.D op) <| onlyIf (g.D op) <| bif g.g20 op != g.g19 op then some (false, ()) else
  onlyIf (g.D op) <| bif strNe (g.g21 op) name then some (false, ()) else
  onlyIf (g.D op) <| onlyIf (g.D op) <| bif g.g17 op != g.g22 op then some (false, ()) else
  onlyIf (g.D op) <| onlyIf (g.D op) <| bif g.g23 op != g.g24 op then some (false, ()) else
  onlyIf (g.D op) <| onlyIf (g.D op) <| bif !((g.g25 op).1 == (g.g26 op).1 && ((g.g25 op).2.1 == (g.g26 op).2.1 && ((g.g25 op).2.2.1 == (g.g26 op).2.2.1 && ((g.g25 op).2.2.2.1 == (g.g26 op).2.2.2.1 && ((g.g25 op).2.2.2.2 == (g.g26 op).2.2.2.2 && true))))) then some (false, ()) else
  match go (op, s, g.g18, name, 0, 0, ()) with
  | none => none
  | some (.inl y) => ends6 g y
  | some (.inr _) => none
theorem e6_eq (g : G6) (op : Int) (s : ByteArray) : e6 g op s = onlyIf (g.D op) (bif g.g19 op then
    bif inRange (IntKind.u8.wrap (op - 1)) g.g18.length then rest6 g (lim (S6 g)) op s (g.g18.getD ((IntKind.u8.wrap (op - 1)).toNat + 0) ⟨#[]⟩) else none
    else rest6 g (lim (S6 g)) op s ⟨#[]⟩) := by kernel_rfl
theorem S6_eq (g : G6) (op : Int) (s : ByteArray) (l : List ByteArray) (name : ByteArray) (found i : Int) : S6 g (op, s, l, name, found, i, ()) =
    bif decide (i < (l.length : Int)) then bif inRange i l.length then bif (l.getD (i.toNat + 0) ⟨#[]⟩).toList == s.toList then some (.inl (op, s, l, name, IntKind.u8.wrap (IntKind.i64.wrap (i + 1)), IntKind.i64.wrap (i + 1), ()))
      else some (.inl (op, s, l, name, found, IntKind.i64.wrap (i + 1), ())) else none else some (.inr (.inl (op, s, name, found, ()))) := by kernel_rfl
end Go.Pv
