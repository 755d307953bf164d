/-
  For all code and any two memories, the law EffectDepends returns true, and its input reads as it did.
-/
import Derived.Test.YtfbcchjmgjafbaaGreatDoorCards
import Derived.Test.YtfbcchjmgjafbaaGreatDoorTie
import Derived.Deep.DeepHandedRow
import Derived.Test.YtfbcchjmgjafbaaGreatDoorRows
import Derived.ProofKit
import Derived.WalkKit
import Derived.OpenShut
import Derived.Test.YtfbcchjmgjafbaaGreatDoorL5
namespace Go.Proofs.YtfbcchjmgjafbaaGreatDoor.EffectDependsF
open Go.ChangeShapes Go.WideShapes Go.ChangeAt Go.RowKit Go.Pv
theorem own : ownKnob Tryz.prog.godebug = none := by kernel_rfl
theorem laidOut : laidOutB Tryz.prog = true := by kernel_rfl
theorem lay0 : tyL Tryz.prog 6 32 = some tW := by kernel_rfl
theorem cel0 : Tryz.prog.cellsOf 32 = (tW : Ty).size := by kernel_rfl
theorem lay1 : tyL Tryz.prog 6 32 = some tW := by kernel_rfl
theorem cel1 : Tryz.prog.cellsOf 32 = (tW : Ty).size := by kernel_rfl
theorem lay2 : tyL Tryz.prog 6 32 = some tW := by kernel_rfl
theorem cel2 : Tryz.prog.cellsOf 32 = (tW : Ty).size := by kernel_rfl
open Go.Pv.Ef
theorem words_of {l : List Int} (h : ∀ x ∈ l, TyOk tW x) : wdsOk l = true := List.all_eq_true.2 fun w hw => by
  have := bounds_u16 (h w hw)
  simp only [Bool.and_eq_true, decide_eq_true_eq]; exact this
theorem words_pos {l : List Int} (h : ∀ x ∈ l, TyOk tW x) : ∀ w ∈ l, 0 ≤ w := fun w hw => (bounds_u16 (h w hw)).1
/-- a world for the witness -/
noncomputable def laidWorld (os : Os) : World :=
  { World.holding Tryz.prog os ⟨#[], #[], []⟩ with heap := (World.holding Tryz.prog os ⟨#[], #[], []⟩).heap.modify 0 fun
      | .cells _ t frozen => .cells #[.int .i64 8, .int .i64 (-483), .int .i64 21534, .int .i64 (-628374), .int .i64 10696163, .int .i64 (-86699834), .int .i64 210828714] t frozen
      | o => o }
theorem reads : ∀ t ∈ Tryz.f4.params.toList, Tryz.prog.readableRec t = true ∧ t < Tryz.prog.types.size := by
  rw [Tryz.params4]
  intro t ht
  simp at ht
  subst ht
  exact ⟨by kernel_rfl, of_decide_eq_true (by kernel_rfl)⟩
set_option maxRecDepth 100000 in
theorem laid_met (os : Os) : laidMet Tryz.prog Rows.effectDependsRow.laid ((laidWorld os).forCall (fun _ _ => 0) ⟨#[], #[.slice none 0 0, .slice none 0 0, .slice none 0 0], []⟩).memory :=
  laidMet_of_run' 8 (by kernel_rfl) (by kernel_rfl)
theorem readsW (os : Os) {H : Type} (enc : TypeId × Value → H) : ∃ places, DataW.whole enc Tryz.prog ((laidWorld os).forCall (fun _ _ => 0) ⟨#[], #[.slice none 0 0, .slice none 0 0, .slice none 0 0], []⟩).memory Tryz.f4.params.toList Rows.effectDependsSpec.vars false (#[.slice none 0 0, .slice none 0 0, .slice none 0 0] : Array Value).toList 8 = some ([.nil, .nil, .nil], [], places) :=
  ⟨[], by kernel_rfl⟩
set_option maxRecDepth 100000 in
theorem lifted (os : Os) (started : os.Started) (H : Type) (enc : TypeId × Value → H) (F : Stop.Interp) :
    ReturnsInHanded {} Tryz.checked os 4 .any ((OpenSpec.ofChange Rows.effectDependsSpec).preRow enc Tryz.prog Tryz.f4 Rows.effectDependsRow.domain false Rows.effectDependsRow.laid) (((OpenSpec.ofChange Rows.effectDependsSpec).at F).post enc Tryz.prog Tryz.f4 false true false false) := by
  obtain ⟨places, hx⟩ := readsW os enc
  refine returnsInHanded_of_row (C := Tryz.checked) (s := OpenSpec.ofChange Rows.effectDependsSpec) own started (by kernel_rfl) Tryz.func4
    (witness_row_at (enc := enc) (C := Tryz.checked) false (laidWorld os) #[.slice none 0 0, .slice none 0 0, .slice none 0 0] rfl (by kernel_rfl) (by kernel_rfl) (by kernel_rfl)
      (OpenSpec.preRow_of_cond 8 hx (by kernel_rfl) (fun k hk => by cases hk) (by kernel_rfl) (laid_met os))) ?_
  intro W base args ds gs before hval0 hW _ _ _ hL _ _
  have hval : ∀ (j : Nat) t v, Tryz.f4.params[j]? = some t → args[j]? = some v → Value.okWide Tryz.prog W .any base t v := hval0
  have hW' := hW
  obtain ⟨p, q, hA0, hV, rfl, hfz, hnd⟩ := hW
  have hA : DataW.TrodAll enc Tryz.prog W 0 (fun _ => true) true Tryz.f4.params.toList args.toList ds p := hA0
  have hA1 := hA
  rw [Tryz.params4] at hA hval
  obtain ⟨v0, vs0, d0, ds0, p0, q0, hargs, rfl, rfl, h0, r0⟩ := trodAll_cons hA
  obtain ⟨v1, vs1, d1, ds1, p1, q1, rfl, rfl, rfl, h1, r1⟩ := trodAll_cons r0
  obtain ⟨v2, vs2, d2, ds2, p2, q2, rfl, rfl, rfl, h2, r2⟩ := trodAll_cons r1
  obtain ⟨rfl, rfl, rfl⟩ := trodAll_nil r2
  obtain rfl : args = #[v0, v1, v2] := by cases args; simp_all
  obtain ⟨rfl, rfl⟩ := trodVars_none hV
  have hlt : ∀ x ∈ p0 ++ (p1 ++ (p2 ++ [])), x.block < W.heap.size := fun x hx => by simpa using hW'.lt x (by simpa using hx)
  obtain ⟨l0, x0, len0, rv0⟩ := slice_RV Tryz.underlying22 lay0 cel0 (hval 0 22 v0 rfl rfl) h0 (β := fun _ => none) (M := fun _ => .none)
  obtain ⟨l1, x1, len1, rv1⟩ := slice_RV Tryz.underlying22 lay1 cel1 (hval 1 22 v1 rfl rfl) h1 (β := fun _ => none) (M := fun _ => .none)
  obtain ⟨l2, x2, len2, rv2⟩ := slice_RV Tryz.underlying22 lay2 cel2 (hval 2 22 v2 rfl rfl) h2 (β := fun _ => none) (M := fun _ => .none)
  have hcalls := calls_trueT tt_ok mixed names okL ((depends_true (a := l1) (b := l2) (words_of x0))) (cntN 4 (by kernel_rfl)) (β := fun _ => none) (Z := fun cb => cb < W.heap.size) (w := W) (cargs := [v0, v1, v2]) (gi hL) (RL.cons rv0 (RL.cons rv1 (RL.cons rv2 RL.nil)))
  refine hcalls.mono fun e W' ⟨he, hg, hh⟩ => ?_
  subst he
  exact ⟨_, rfl, post_same0 (pa := p0 ++ (p1 ++ (p2 ++ []))) (pv := []) hW' (fun _ _ _ => (trodAll_cons_mk (shut_bool Tryz.underlying4 _) trodAll_mk0)) (fun sp hsp => trodAll_stays laidOut hh reads hA1 hlt (fun y hy => hsp y (by simpa using hy))) (fun _ _ => rfl) rfl
    (hg.frame _)⟩

theorem said : Rows.EffectDependsSaid :=
  OpenClaim.holds_of_cond 4 Tryz.f4 rfl rfl rfl rfl rfl rfl rfl ⟨rfl, rfl, rfl, rfl, rfl⟩ rfl rfl rfl rfl rfl (by kernel_rfl) Tryz.func4 (by kernel_rfl)
    (of_decide_eq_true (by kernel_rfl)) (by unfold Func.isWrapper; first | (rw [if_pos (by decide +kernel)]; kernel_rfl) | (rw [if_neg (by decide +kernel)]; exact ⟨rfl, rfl⟩))
    (fun os started H enc _ F => by rw [OpenClaim.pre_eq_preRow]; exact lifted os started H enc F)
theorem plain (f : FuncId) (fn : Func) (hf : Tryz.pinned.checked.prog.funcNamed "perilune/perilunelaw22.EffectDepends" = some f) (hfn : Tryz.pinned.checked.prog.funcs[f]? = some fn) :
    false = Tryz.pinned.checked.prog.looks [] ∧ ∀ (j : Nat) t, fn.params[j]? = some t → Tryz.pinned.checked.prog.wantsStandIn t = false := by
  obtain rfl : f = 4 := Option.some.inj ((show Tryz.prog.funcNamed "perilune/perilunelaw22.EffectDepends" = some 4 by kernel_rfl).symm.trans hf) |>.symm
  obtain rfl : fn = Tryz.f4 := (Option.some.inj (Tryz.func4.symm.trans hfn)).symm
  refine ⟨by kernel_rfl, fun j t ht => ?_⟩
  rw [Tryz.params4] at ht
  have hm : t ∈ [22, 22, 22] := by
    have := Array.mem_of_getElem? ht
    simpa using this
  have hall : ∀ t ∈ [22, 22, 22], Tryz.prog.wantsStandIn t = false := by
    intro t h
    simp at h
    subst h; kernel_rfl
  exact hall t hm
end Go.Proofs.YtfbcchjmgjafbaaGreatDoor.EffectDependsF
namespace Go.Proofs.YtfbcchjmgjafbaaGreatDoor

/-- the card -/
theorem effectDependsTied : Rows.EffectDependsCardSaid :=
  Claim7.holds_tied_plain_at .later [] _ _ _ _ EffectDependsF.said (fun _ h => by cases h) (by kernel_rfl) (fun _ h => by cases h) effectDepends_row_tie rfl ⟨rfl, rfl⟩ (by kernel_rfl) rfl EffectDependsF.plain (by kernel_rfl)
#print axioms effectDependsTied
end Go.Proofs.YtfbcchjmgjafbaaGreatDoor
