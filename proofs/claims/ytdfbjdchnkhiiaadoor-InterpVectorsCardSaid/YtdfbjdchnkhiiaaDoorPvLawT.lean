/-
  A law function that is run by itself (structured loops, splits) and returns true.
-/
import Derived.Test.YtdfbjdchnkhiiaaDoorPvSpecT
import Derived.Test.YtdfbjdchnkhiiaaDoorPvLaw
namespace Go.Pv
open Go.RowKit

section
variable {P : Program} {T : TypeId → TT}

theorem calls_trueT (hT : TOK P T) (hm : P.follows .mixedOrders = true) (hname : ∀ (f : FuncId) fn, P.funcs[f]? = some fn → (fn.name == "runtime.NumGoroutine") = false)
    {callE : (R : Type) → CallE R} (hcall : ∀ R, CallsOK P (callE R)) {lts : List LoopT} {sps : List Split} {f : FuncId} {sa : Sig} {x : sa.den}
    (h : evalT P T callE lts sps f sa [Sl.val 0 .bool] x = some (true, ())) (hcount : ∀ fn, P.funcs[f]? = some fn → fn.results.size = 1)
    {β : Nat → Option Loc} {Z : Nat → Prop} {w : World} {cargs : List Value} (hz : ZOk Z w.heap) (hargs : RL β (fun _ => .none) Z w.heap (argsV sa x) cargs) :
    Calls P f cargs.toArray w fun e w' => e = .returned (.bool true) ∧ Grown w w' ∧ ∀ i, i < w.heap.size → w'.heap[i]? = w.heap[i]? := by
  obtain ⟨_, h2⟩ := evalT_ok hT hm hname hcall h
  refine (h2 0 β Z w cargs hz hargs).mono fun e w' ⟨us, β', Z', h3, ⟨fn, h4, h5⟩, h6, _, h7⟩ => ⟨?_, h7.grown, h7.2.2.2.1⟩
  rw [hcount fn h4] at h5
  obtain ⟨u, rfl⟩ : ∃ u, us = [u] := by
    cases us with
    | nil => simp at h5
    | cons u r => cases r with
      | nil => exact ⟨u, rfl⟩
      | cons _ _ => simp at h5
  have h8 := h6 0
  have h8' : RV β' (TSh.putM [Sl.val 0 .bool] 0 (true, ())) Z' w'.heap (.bool true) ([u].getD 0 undef) := h8
  have h9 := h8'.bool_inv
  simp at h9
  rw [h3, h9]
  rfl
end
end Go.Pv
