/-
  The law InterpKnown, which takes no input, returns true, where the package's table of sine coefficients holds what the program's text lays.
-/
import Derived.Test.YtdfbjdchnkhiiaaDoorCards
import Derived.Test.YtdfbjdchnkhiiaaDoorTie
import Derived.WalkKit
import Derived.ProofKit
import Derived.OpenShut
import Derived.Deep.DeepHandedRow
import Derived.Test.YtdfbjdchnkhiiaaDoorPvRead2
import Derived.Test.YtdfbjdchnkhiiaaDoorR3Icode
namespace Go.Pv
open Go.Proofs
set_option maxRecDepth 1000000
theorem lives_eval : evalF Tryd.prog tt callC [] 10 [] [.val .bool] () = some (true, ()) := by kernel_rfl
theorem cnt10 (fn : Func) (h : Tryd.prog.funcs[10]? = some fn) : fn.results.size = 1 := by
  have : (Tryd.prog.funcs[10]?).map (fun fn => fn.results.size) = some 1 := by kernel_rfl
  rw [h] at this; simpa using this
theorem cnt9 (fn : Func) (h : Tryd.prog.funcs[9]? = some fn) : fn.results.size = 1 := by
  have : (Tryd.prog.funcs[9]?).map (fun fn => fn.results.size) = some 1 := by kernel_rfl
  rw [h] at this; simpa using this
theorem fn10 : FnOK Tryd.prog 10 [] [.val .bool] fun _ => bif true then some (true, ()) else none := fnOK (lss := []) callC_ok fun x y h => by
  obtain ⟨⟩ := x
  exact lives_eval.trans h
def specs9 (R : Type) (f : FuncId) : Option (List V → Mem → Nat → (Eff → Option R) → Option R) :=
  match f with
  | 10 => some (specD [] [.val .bool] (fun _ => true) fun _ => (true, ()))
  | 33 => some (specE sDec rDec FDecC)
  | 18 => some (specD sOp [.agg tForm] (fun x => kn x.1) fun x => (formOf x.1, ()))
  | _ => none
theorem specs9_ok (R : Type) : SpecOK Tryd.prog (specs9 R) := by
  intro f s hs
  unfold specs9 at hs
  split at hs
  · cases hs; exact specD_ok fn10 flat_bool cnt10
  · cases hs; exact specE_ok fn33C flatDec cnt33
  · cases hs; exact specD_ok fn18 flat_form cnt18
  · cases hs
noncomputable def call9 (R : Type) : CallE R := callsE Tryd.prog tt (specs9 R) 30
theorem call9_ok (R : Type) : CallsOK Tryd.prog (call9 R) := callsE_ok tt_ok mixed names (specs9_ok R) 30
theorem top9 : evalF Tryd.prog tt call9 [] 9 [] [.val .bool] () = some (true, ()) := by kernel_rfl
end Go.Pv
namespace Go.Proofs.YtdfbjdchnkhiiaaDoor.interpKnownP
open Go.ChangeShapes Go.WideShapes Go.ChangeAt Go.RowKit Go.Pv

theorem own : ownKnob Tryd.prog.godebug = none := by kernel_rfl

set_option maxRecDepth 100000 in
theorem contract (H : Type) (enc : TypeId × Value → H) (W : World) (base : Nat) (args : Array Value) (ds gs : List (DataW H)) (before : List MemPlace)
    (hval : ∀ (j : Nat) t v, Tryd.f9.params[j]? = some t → args[j]? = some v → Value.okWide Tryd.prog W .any base t v)
    (hW : DataW.Whole enc Tryd.prog Tryd.f9.params.toList Rows.interpKnownSpec.vars false W args.toList ds gs before) :
    Calls Tryd.prog 9 args W fun e W' => ∃ v, e = .returned v ∧ Rows.interpKnownSpec.post enc Tryd.prog Tryd.f9 false true false false W args v W' := by
  have hW' := hW
  obtain ⟨p, q, hA0, hV, rfl, hfz, hnd⟩ := hW
  have hA : DataW.TrodAll enc Tryd.prog W 0 (fun _ => true) true Tryd.f9.params.toList args.toList ds p := hA0
  rw [Tryd.params9] at hA
  obtain ⟨hargs, rfl, rfl⟩ := trodAll_nil hA
  obtain rfl : args = #[] := by cases args; simp_all
  obtain ⟨rfl, rfl⟩ := trodVars_none hV
  have hcalls := calls_true tt_ok mixed names call9_ok top9 cnt9 (β := fun _ => none) (Z := fun _ => False) (w := W) (cargs := []) (fun _ h => h.elim) RL.nil
  refine hcalls.mono fun e W' ⟨he, hg, hh⟩ => ?_
  subst he
  exact ⟨_, rfl, post_of_same (pa := []) (pv := []) hW' (fun _ _ _ => (trodAll_cons_mk (shut_bool Tryd.underlying4 _) trodAll_mk0)) (fun _ _ => trodAll_mk0) (fun _ _ => rfl) rfl
    (hg.frame _) hg.2.1 (ok_one (by kernel_rfl) rfl (okWide_bool_mk Tryd.underlying4 _))⟩

/-- a world for the witness -/
noncomputable def laidWorld (os : Os) : World :=
  { World.holding Tryd.prog os ⟨#[], #[], []⟩ with heap := (World.holding Tryd.prog os ⟨#[], #[], []⟩).heap.modify 0 fun
      | .cells _ t frozen => .cells #[.int .i64 8, .int .i64 (-483), .int .i64 21534, .int .i64 (-628374), .int .i64 10696163, .int .i64 (-86699834), .int .i64 210828714] t frozen
      | o => o }
theorem laid_met (os : Os) : laidMet Tryd.prog Rows.interpKnownRow.laid ((laidWorld os).forCall (fun _ _ => 0) ⟨#[], #[], []⟩).memory :=
  laidMet_of_run' 8 (by kernel_rfl) (by kernel_rfl)
theorem reads (os : Os) {H : Type} (enc : TypeId × Value → H) : ∃ places, DataW.whole enc Tryd.prog ((laidWorld os).forCall (fun _ _ => 0) ⟨#[], #[], []⟩).memory Tryd.f9.params.toList Rows.interpKnownSpec.vars false (#[] : Array Value).toList 8 = some ([], [], places) :=
  ⟨[], by kernel_rfl⟩

set_option maxRecDepth 100000 in
theorem lifted (os : Os) (started : os.Started) (H : Type) (enc : TypeId × Value → H) (F : Stop.Interp) :
    ReturnsInHanded {} Tryd.checked os 9 .any ((OpenSpec.ofChange Rows.interpKnownSpec).preRow enc Tryd.prog Tryd.f9 Rows.interpKnownRow.domain false Rows.interpKnownRow.laid) (((OpenSpec.ofChange Rows.interpKnownSpec).at F).post enc Tryd.prog Tryd.f9 false true false false) := by
  obtain ⟨places, hx⟩ := reads os enc
  refine returnsInHanded_of_row (C := Tryd.checked) (s := OpenSpec.ofChange Rows.interpKnownSpec) own started (by kernel_rfl) Tryd.func9
    (witness_row_at (enc := enc) (C := Tryd.checked) false (laidWorld os) #[] rfl (by kernel_rfl) (by kernel_rfl) (by kernel_rfl)
      (OpenSpec.preRow_of_cond 8 hx (by kernel_rfl) (fun k hk => by cases hk) (by kernel_rfl) (laid_met os))) ?_
  intro W base args ds gs before hval hW _ _ _ hL _ _
  exact contract H enc W base args ds gs before hval hW

theorem said : Rows.InterpKnownSaid :=
  OpenClaim.holds_of_cond 9 Tryd.f9 rfl rfl rfl rfl rfl rfl rfl ⟨rfl, rfl, rfl, rfl, rfl⟩ rfl rfl rfl rfl rfl (by kernel_rfl) Tryd.func9 (by kernel_rfl)
    (of_decide_eq_true (by kernel_rfl)) (by unfold Func.isWrapper; first | (rw [if_pos (by decide +kernel)]; kernel_rfl) | (rw [if_neg (by decide +kernel)]; exact ⟨rfl, rfl⟩))
    (fun os started H enc _ F => by rw [OpenClaim.pre_eq_preRow]; exact lifted os started H enc F)

theorem plain (f : FuncId) (fn : Func) (hf : Tryd.pinned.checked.prog.funcNamed "perilune/perilunelaw21.InterpKnown" = some f) (hfn : Tryd.pinned.checked.prog.funcs[f]? = some fn) :
    false = Tryd.pinned.checked.prog.looks [] ∧ ∀ (j : Nat) t, fn.params[j]? = some t → Tryd.pinned.checked.prog.wantsStandIn t = false := by
  obtain rfl : f = 9 := Option.some.inj ((show Tryd.prog.funcNamed "perilune/perilunelaw21.InterpKnown" = some 9 by kernel_rfl).symm.trans hf) |>.symm
  obtain rfl : fn = Tryd.f9 := (Option.some.inj (Tryd.func9.symm.trans hfn)).symm
  refine ⟨by kernel_rfl, fun j t ht => ?_⟩
  rw [Tryd.params9] at ht
  simp at ht
end Go.Proofs.YtdfbjdchnkhiiaaDoor.interpKnownP
namespace Go.Proofs.YtdfbjdchnkhiiaaDoor

/-- the card -/
theorem interpKnownTied : Rows.InterpKnownCardSaid :=
  Claim7.holds_tied_plain_at .later [] _ _ _ _ interpKnownP.said (fun _ h => by cases h) (by kernel_rfl) (fun _ h => by cases h) interpKnown_row_tie rfl ⟨rfl, rfl⟩ (by kernel_rfl) rfl interpKnownP.plain (by kernel_rfl)
#print axioms interpKnownTied
end Go.Proofs.YtdfbjdchnkhiiaaDoor
