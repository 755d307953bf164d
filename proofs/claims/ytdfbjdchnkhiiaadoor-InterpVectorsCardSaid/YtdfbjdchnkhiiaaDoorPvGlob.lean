/-
  What the listed package variables of this seat hold (each seat has its own such text).
-/
import Derived.Test.YtdfbjdchnkhiiaaDoorPvBase
namespace Go.Pv
/-- the package variables that the rows lay: their numbers, types and data -/
def globTab : Nat → Option ((τ : Ty) × τ.den)
  | 0 => some ⟨Ty.arr 7 (.int .i64), ((8 : Int), (-483 : Int), (21534 : Int), (-628374 : Int), (10696163 : Int), (-86699834 : Int), (210828714 : Int))⟩
  | _ => none
end Go.Pv
