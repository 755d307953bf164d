/-
  The law InterpScalars returns true, whatever the doubles and the number.
-/
import Derived.Test.YtdfbjdchnkhiiaaDoorR3NumLaw
import Derived.Test.YtdfbjdchnkhiiaaDoorPvLawT
namespace Go.Pv
open Go.Proofs
set_option maxRecDepth 1000000
theorem e5_eq (g : GN) (p0 p1 a0 a1 w : Int) : e5 g (p0, p1) (a0, a1) w =
    bif decide (IntKind.u8.wrap (10 + w.tmod 4) = 10) then fin5 g (g.add (arg1 g (p0, p1)) (arg2 g (a0, a1))) (g.add (p0, p1) (a0, a1)) else
    bif decide (IntKind.u8.wrap (10 + w.tmod 4) = 11) then fin5 g (g.sub (arg1 g (p0, p1)) (arg2 g (a0, a1))) (g.sub (p0, p1) (a0, a1)) else
    bif decide (IntKind.u8.wrap (10 + w.tmod 4) = 12) then fin5 g (g.mul (arg1 g (p0, p1)) (arg2 g (a0, a1)), false) (g.mul (p0, p1) (a0, a1), false) else
    bif decide (IntKind.u8.wrap (10 + w.tmod 4) = 13) then fin5 g (g.div (arg1 g (p0, p1)) (arg2 g (a0, a1))) (g.div (p0, p1) (a0, a1)) else none := by kernel_rfl
theorem fn10N : FnOK Tryd.prog 10 [] [.val .bool] fun _ => bif true then some (true, ()) else none := fnOK (lss := []) callC_ok fun x y h => by
  obtain ⟨⟩ := x
  exact (show evalF Tryd.prog tt callC [] 10 [] [.val .bool] () = some (true, ()) by kernel_rfl).trans h
theorem specsN_ok (R : Type) : SpecOK Tryd.prog (specsN gN R) := by
  intro f s hs
  unfold specsN at hs
  split at hs
  · cases hs; exact specD_ok fn10N flat_bool (cntN 10 (by kernel_rfl))
  · cases hs; exact specE_ok fn33C flatDec cnt33
  · cases hs; exact specD_ok fn18 flat_form cnt18
  · cases hs; exact specD_ok fn30 flatD (cntN 30 (by kernel_rfl))
  · cases hs; exact specD_ok fn21 flatDB (cntN 21 (by kernel_rfl))
  · cases hs; exact specD_ok fn22 flatDB (cntN 22 (by kernel_rfl))
  · cases hs; exact specD_ok fn23 flatD (cntN 23 (by kernel_rfl))
  · cases hs; exact specD_ok fn24 flatDB (cntN 24 (by kernel_rfl))
  · cases hs
theorem callNum_ok (R : Type) : CallsOK Tryd.prog (callNum gN R) := callsE_ok tt_ok mixed names (specsN_ok R) 30
theorem which4 {w : Int} (h : 0 ≤ w) : w.tmod 4 = 0 ∨ w.tmod 4 = 1 ∨ w.tmod 4 = 2 ∨ w.tmod 4 = 3 := by
  rw [Int.tmod_eq_emod_of_nonneg h]
  omega
theorem top5 (p a : Db) {w : Int} (h : 0 ≤ w) : e5 gN p a w = some (true, ()) := by
  obtain ⟨p0, p1⟩ := p
  obtain ⟨a0, a1⟩ := a
  rw [e5_eq]
  rcases which4 h with h | h | h | h <;> rw [h]
  · exact fin_add (p0, p1) (a0, a1)
  · exact fin_sub (p0, p1) (a0, a1)
  · exact fin_mul (p0, p1) (a0, a1)
  · exact fin_div (p0, p1) (a0, a1)
theorem cnt5 (fn : Func) (h : Tryd.prog.funcs[5]? = some fn) : fn.results.size = 1 := cntN 5 (by kernel_rfl) fn h
end Go.Pv
