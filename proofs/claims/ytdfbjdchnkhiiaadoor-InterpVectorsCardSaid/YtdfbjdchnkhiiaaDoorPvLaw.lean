/-
  From a function's run by itself to what a law's statement asks of the call: it returns true, the world has at most new blocks.
-/
import Derived.Test.YtdfbjdchnkhiiaaDoorPvSpec2
import Derived.RowKit3
import Derived.WideKeyArgs
namespace Go.Pv
open Go.RowKit

section
variable {P : Program} {T : TypeId → TT}

theorem Since.grown {w w' : World} {Z0 : Nat → Prop} {β : Nat → Option Loc} {M : Mem} {Z : Nat → Prop} (h : Since w Z0 β M Z w') : Grown w w' := by
  obtain ⟨h1, h2, h3, h4, h5, h6⟩ := h
  refine ⟨⟨h6.1, h6.2.1, fun i hi => ?_⟩, h6.2.2, h3⟩
  rw [h4 i hi]
  cases w.heap[i]? with
  | none => rfl
  | some o => cases o with
    | cells c t fr => exact ⟨rfl, rfl, rfl, fun _ _ => rfl⟩
    | map es clock => exact .inr ⟨rfl, rfl⟩
    | _ => rfl

/-- the function returns true -/
theorem calls_true (hT : TOK P T) (hm : P.follows .mixedOrders = true) (hname : ∀ (f : FuncId) fn, P.funcs[f]? = some fn → (fn.name == "runtime.NumGoroutine") = false)
    {callE : (R : Type) → CallE R} (hcall : ∀ R, CallsOK P (callE R)) {lss : List LoopSpec} {f : FuncId} {sa : Sig} {x : sa.den}
    (h : evalF P T callE lss f sa [.val .bool] x = some (true, ())) (hcount : ∀ fn, P.funcs[f]? = some fn → fn.results.size = 1)
    {β : Nat → Option Loc} {Z : Nat → Prop} {w : World} {cargs : List Value} (hz : ZOk Z w.heap) (hargs : RL β (fun _ => .none) Z w.heap (argsV sa x) cargs) :
    Calls P f cargs.toArray w fun e w' => e = .returned (.bool true) ∧ Grown w w' ∧ ∀ i, i < w.heap.size → w'.heap[i]? = w.heap[i]? := by
  obtain ⟨_, h2⟩ := evalF_ok hT hm hname hcall h
  refine (h2 0 β Z w cargs hz hargs).mono fun e w' ⟨us, β', Z', h3, ⟨fn, h4, h5⟩, h6, _, h7⟩ => ⟨?_, h7.grown, h7.2.2.2.1⟩
  rw [hcount fn h4] at h5
  obtain ⟨u, rfl⟩ : ∃ u, us = [u] := by
    cases us with
    | nil => simp at h5
    | cons u r => cases r with
      | nil => exact ⟨u, rfl⟩
      | cons _ _ => simp at h5
  have h8 := h6 0
  have h8' : RV β' (Shape.putM (resShape 0 [.val .bool]) 0 (true, ())) Z' w'.heap (.bool true) ([u].getD 0 undef) := h8
  have h9 := h8'.bool_inv
  simp at h9
  rw [h3, h9]
  rfl

/-- the arguments read as they did -/
theorem trodAll_stays {H : Type} {enc : TypeId × Value → H} (hl : laidOutB P = true) {W W' : World} (hheap : ∀ i, i < W.heap.size → W'.heap[i]? = W.heap[i]?) {sp' : Nat → Bool} :
    ∀ {ts : List TypeId} {vs : List Value} {ds : List (DataW H)} {ps : List MemPlace}, (∀ t ∈ ts, P.readableRec t = true ∧ t < P.types.size) → DataW.TrodAll enc P W 0 (fun _ => true) true ts vs ds ps →
      (∀ p ∈ ps, p.block < W.heap.size) → (∀ p ∈ ps, sp' p.block = true) → DataW.TrodAll enc P W' 0 sp' true ts vs ds ps
  | [], [], [], ps, _, h, _, _ => h
  | t :: ts, v :: vs, d :: ds, ps, hr, h, hlt, hs => by
    obtain ⟨p, q, h1, h2, rfl⟩ := h
    refine ⟨p, q, WideElems.Trod_stays hl (hr t (by simp)).1 (hr t (by simp)).2 h1 (fun x hx => ?_) fun x hx => hs x (List.mem_append_left _ hx),
      trodAll_stays hl hheap (fun t ht => hr t (by simp [ht])) h2 (fun x hx => hlt x (List.mem_append_right _ hx)) fun x hx => hs x (List.mem_append_right _ hx), rfl⟩
    have hb := hlt x (List.mem_append_left _ hx)
    cases x with
    | cell b o => exact World.cell?_of_block (w := W) (hheap b hb)
    | map b => exact hheap b hb
  | [], _ :: _, _, _, _, h, _, _ => by cases h
  | [], [], _ :: _, _, _, h, _, _ => by cases h
  | _ :: _, [], _, _, _, h, _, _ => by cases h
  | _ :: _, _ :: _, [], _, _, h, _, _ => by cases h

end
end Go.Pv
