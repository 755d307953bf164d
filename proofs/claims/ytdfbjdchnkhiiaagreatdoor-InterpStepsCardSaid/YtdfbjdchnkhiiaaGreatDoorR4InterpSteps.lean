/-
  For all code, memory and registers, the law InterpSteps returns true, and its input reads as it did.
-/
import Derived.Test.YtdfbjdchnkhiiaaGreatDoorCards
import Derived.Test.YtdfbjdchnkhiiaaGreatDoorTie
import Derived.Deep.DeepHandedRow
import Derived.Test.YtdfbjdchnkhiiaaGreatDoorRows
import Derived.ProofKit
import Derived.WalkKit
import Derived.OpenShut
import Derived.Test.YtdfbjdchnkhiiaaGreatDoorL5
namespace Go.Proofs.YtdfbjdchnkhiiaaGreatDoor.InterpStepsF
open Go.ChangeShapes Go.WideShapes Go.ChangeAt Go.RowKit Go.Pv
theorem own : ownKnob Tryz.prog.godebug = none := by kernel_rfl
theorem laidOut : laidOutB Tryz.prog = true := by kernel_rfl
theorem lay0 : tyL Tryz.prog 6 25 = some tW := by kernel_rfl
theorem cel0 : Tryz.prog.cellsOf 25 = (tW : Ty).size := by kernel_rfl
theorem lay1 : tyL Tryz.prog 6 25 = some tW := by kernel_rfl
theorem cel1 : Tryz.prog.cellsOf 25 = (tW : Ty).size := by kernel_rfl
theorem lay2 : tyS Tryz.prog 9 34 = some (tRegs, [3, 23, 25, 25, 25, 25, 25, 25, 30, 31, 4, 32]) := by kernel_rfl
theorem ctp2 : Tryz.prog.cellTypes Tryz.prog.depth 34 = some [3, 23, 25, 25, 25, 25, 25, 25, 30, 31, 4, 32] := by kernel_rfl
theorem cnt_2 : Tryz.prog.cellsOf 34 = ([3, 23, 25, 25, 25, 25, 25, 25, 30, 31, 4, 32] : List TypeId).length := by kernel_rfl
theorem words_of {l : List Int} (h : ∀ x ∈ l, TyOk tW x) : ∀ w ∈ l, 0 ≤ w ∧ w ≤ 65535 := fun w hw => bounds_u16 (h w hw)
theorem wdB_of {x : Db} (h : TyOk tD x) : wdB x = true := wdB_iff.2 ⟨⟨bounds_u16 h.1, (bounds_u16 h.2).1⟩, (bounds_u16 h.2).2⟩
theorem wdR_of {x : Nv.Regs} (h : TyOk tRegs x) : wdR x = true := by
  simp only [wdR, Bool.and_eq_true, List.all_eq_true]
  exact ⟨wd3B_iff.2 ⟨wdB_of h.2.2.1.1, wdB_of h.2.2.1.2.1, wdB_of h.2.2.1.2.2⟩, fun d hd => wdB_of (h.2.2.2.1.1 d hd)⟩
/-- a world for the witness -/
noncomputable def laidWorld (os : Os) : World :=
  { World.holding Tryz.prog os ⟨#[], #[], []⟩ with heap := (World.holding Tryz.prog os ⟨#[], #[], []⟩).heap.modify 0 fun
      | .cells _ t frozen => .cells #[.int .i64 8, .int .i64 (-483), .int .i64 21534, .int .i64 (-628374), .int .i64 10696163, .int .i64 (-86699834), .int .i64 210828714] t frozen
      | o => o }
theorem reads : ∀ t ∈ Tryz.f3.params.toList, Tryz.prog.readableRec t = true ∧ t < Tryz.prog.types.size := by
  rw [Tryz.params3]
  intro t ht
  simp at ht
  rcases ht with rfl | rfl | rfl <;> exact ⟨by kernel_rfl, of_decide_eq_true (by kernel_rfl)⟩
set_option maxRecDepth 100000 in
theorem laid_met (os : Os) : laidMet Tryz.prog Rows.interpStepsRow.laid ((laidWorld os).forCall (fun _ _ => 0) ⟨#[], #[.slice none 0 0, .slice none 0 0, .agg #[.int .i64 0, .int .u8 0, .int .u16 0, .int .u16 0, .int .u16 0, .int .u16 0, .int .u16 0, .int .u16 0, .slice none 0 0, .slice none 0 0, .bool false, .slice none 0 0]], []⟩).memory :=
  laidMet_of_run' 8 (by kernel_rfl) (by kernel_rfl)
theorem readsW (os : Os) {H : Type} (enc : TypeId × Value → H) : ∃ places, DataW.whole enc Tryz.prog ((laidWorld os).forCall (fun _ _ => 0) ⟨#[], #[.slice none 0 0, .slice none 0 0, .agg #[.int .i64 0, .int .u8 0, .int .u16 0, .int .u16 0, .int .u16 0, .int .u16 0, .int .u16 0, .int .u16 0, .slice none 0 0, .slice none 0 0, .bool false, .slice none 0 0]], []⟩).memory Tryz.f3.params.toList Rows.interpStepsSpec.vars false (#[.slice none 0 0, .slice none 0 0, .agg #[.int .i64 0, .int .u8 0, .int .u16 0, .int .u16 0, .int .u16 0, .int .u16 0, .int .u16 0, .int .u16 0, .slice none 0 0, .slice none 0 0, .bool false, .slice none 0 0]] : Array Value).toList 8 = some ([.nil, .nil, .agg [.lit (.int .i64 0), .lit (.int .u8 0), .agg [.agg [.lit (.int .u16 0), .lit (.int .u16 0)], .agg [.lit (.int .u16 0), .lit (.int .u16 0)], .agg [.lit (.int .u16 0), .lit (.int .u16 0)]], .nil, .nil, .lit (.bool false), .nil]], [], places) :=
  ⟨[], by kernel_rfl⟩
set_option maxRecDepth 100000 in
theorem lifted (os : Os) (started : os.Started) (H : Type) (enc : TypeId × Value → H) (F : Stop.Interp) :
    ReturnsInHanded {} Tryz.checked os 3 .any ((OpenSpec.ofChange Rows.interpStepsSpec).preRow enc Tryz.prog Tryz.f3 Rows.interpStepsRow.domain false Rows.interpStepsRow.laid) (((OpenSpec.ofChange Rows.interpStepsSpec).at F).post enc Tryz.prog Tryz.f3 false true false false) := by
  obtain ⟨places, hx⟩ := readsW os enc
  refine returnsInHanded_of_row (C := Tryz.checked) (s := OpenSpec.ofChange Rows.interpStepsSpec) own started (by kernel_rfl) Tryz.func3
    (witness_row_at (enc := enc) (C := Tryz.checked) false (laidWorld os) #[.slice none 0 0, .slice none 0 0, .agg #[.int .i64 0, .int .u8 0, .int .u16 0, .int .u16 0, .int .u16 0, .int .u16 0, .int .u16 0, .int .u16 0, .slice none 0 0, .slice none 0 0, .bool false, .slice none 0 0]] rfl (by kernel_rfl) (by kernel_rfl) (by kernel_rfl)
      (OpenSpec.preRow_of_cond 8 hx (by kernel_rfl) (fun k hk => by cases hk) (by kernel_rfl) (laid_met os))) ?_
  intro W base args ds gs before hval0 hW _ _ _ hL _ _
  have hval : ∀ (j : Nat) t v, Tryz.f3.params[j]? = some t → args[j]? = some v → Value.okWide Tryz.prog W .any base t v := hval0
  have hW' := hW
  obtain ⟨p, q, hA0, hV, rfl, hfz, hnd⟩ := hW
  have hA : DataW.TrodAll enc Tryz.prog W 0 (fun _ => true) true Tryz.f3.params.toList args.toList ds p := hA0
  have hA1 := hA
  rw [Tryz.params3] at hA hval
  obtain ⟨v0, vs0, d0, ds0, p0, q0, hargs, rfl, rfl, h0, r0⟩ := trodAll_cons hA
  obtain ⟨v1, vs1, d1, ds1, p1, q1, rfl, rfl, rfl, h1, r1⟩ := trodAll_cons r0
  obtain ⟨v2, vs2, d2, ds2, p2, q2, rfl, rfl, rfl, h2, r2⟩ := trodAll_cons r1
  obtain ⟨rfl, rfl, rfl⟩ := trodAll_nil r2
  obtain rfl : args = #[v0, v1, v2] := by cases args; simp_all
  obtain ⟨rfl, rfl⟩ := trodVars_none hV
  have hlt : ∀ x ∈ p0 ++ (p1 ++ (p2 ++ [])), x.block < W.heap.size := fun x hx => by simpa using hW'.lt x (by simpa using hx)
  obtain ⟨l0, x0, len0, rv0⟩ := slice_RV Tryz.underlying22 lay0 cel0 (hval 0 22 v0 rfl rfl) h0 (β := fun _ => none) (M := fun _ => .none)
  obtain ⟨l1, x1, len1, rv1⟩ := slice_RV Tryz.underlying22 lay1 cel1 (hval 1 22 v1 rfl rfl) h1 (β := fun _ => none) (M := fun _ => .none)
  obtain ⟨x2, o2, rv2⟩ := aggS_RV Tryz.underlying34 lay2 ctp2 cnt_2 (hval 2 34 v2 rfl rfl) h2 (β := fun _ => none) (M := fun _ => .none)
  have hcalls := calls_trueT tt_ok mixed names callZ_ok (top3 l0 l1 x2 (words_of x0) (words_of x1) (wdR_of o2)) cnt3 (β := fun _ => none) (Z := fun cb => cb < W.heap.size) (w := W) (cargs := [v0, v1, v2]) (gi hL) (RL.cons rv0 (RL.cons rv1 (RL.cons rv2 RL.nil)))
  refine hcalls.mono fun e W' ⟨he, hg, hh⟩ => ?_
  subst he
  exact ⟨_, rfl, post_of_same (pa := p0 ++ (p1 ++ (p2 ++ []))) (pv := []) hW' (fun _ _ _ => (trodAll_cons_mk (shut_bool Tryz.underlying4 _) trodAll_mk0)) (fun sp hsp => trodAll_stays laidOut hh reads hA1 hlt (fun y hy => hsp y (by simpa using hy))) (fun _ _ => rfl) rfl
    (hg.frame _) hg.2.1 (ok_one (by kernel_rfl) rfl (okWide_bool_mk Tryz.underlying4 _))⟩

theorem said : Rows.InterpStepsSaid :=
  OpenClaim.holds_of_cond 3 Tryz.f3 rfl rfl rfl rfl rfl rfl rfl ⟨rfl, rfl, rfl, rfl, rfl⟩ rfl rfl rfl rfl rfl (by kernel_rfl) Tryz.func3 (by kernel_rfl)
    (of_decide_eq_true (by kernel_rfl)) (by unfold Func.isWrapper; first | (rw [if_pos (by decide +kernel)]; kernel_rfl) | (rw [if_neg (by decide +kernel)]; exact ⟨rfl, rfl⟩))
    (fun os started H enc _ F => by rw [OpenClaim.pre_eq_preRow]; exact lifted os started H enc F)
theorem plain (f : FuncId) (fn : Func) (hf : Tryz.pinned.checked.prog.funcNamed "perilune/perilunelaw21.InterpSteps" = some f) (hfn : Tryz.pinned.checked.prog.funcs[f]? = some fn) :
    false = Tryz.pinned.checked.prog.looks [] ∧ ∀ (j : Nat) t, fn.params[j]? = some t → Tryz.pinned.checked.prog.wantsStandIn t = false := by
  obtain rfl : f = 3 := Option.some.inj ((show Tryz.prog.funcNamed "perilune/perilunelaw21.InterpSteps" = some 3 by kernel_rfl).symm.trans hf) |>.symm
  obtain rfl : fn = Tryz.f3 := (Option.some.inj (Tryz.func3.symm.trans hfn)).symm
  refine ⟨by kernel_rfl, fun j t ht => ?_⟩
  rw [Tryz.params3] at ht
  have hm : t ∈ [22, 22, 34] := by
    have := Array.mem_of_getElem? ht
    simpa using this
  have hall : ∀ t ∈ [22, 22, 34], Tryz.prog.wantsStandIn t = false := by
    intro t h
    simp at h
    rcases h with rfl | rfl | rfl <;> kernel_rfl
  exact hall t hm
end Go.Proofs.YtdfbjdchnkhiiaaGreatDoor.InterpStepsF
namespace Go.Proofs.YtdfbjdchnkhiiaaGreatDoor

/-- the card -/
theorem interpStepsTied : Rows.InterpStepsCardSaid :=
  Claim7.holds_tied_plain_at .later [] _ _ _ _ InterpStepsF.said (fun _ h => by cases h) (by kernel_rfl) (fun _ h => by cases h) interpSteps_row_tie rfl ⟨rfl, rfl⟩ (by kernel_rfl) rfl InterpStepsF.plain (by kernel_rfl)
#print axioms interpStepsTied
end Go.Proofs.YtdfbjdchnkhiiaaGreatDoor
