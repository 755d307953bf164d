/-
  For all vectors of doubles and every number, the law ArithmeticExact returns true, and its input reads as it did.
-/
import Derived.Test.YtchkmdhncgahbaaGreatDoorCards
import Derived.Test.YtchkmdhncgahbaaGreatDoorTie
import Derived.Deep.DeepHandedRow
import Derived.Test.YtchkmdhncgahbaaGreatDoorRows
import Derived.ProofKit
import Derived.WalkKit
import Derived.OpenShut
import Derived.Test.YtchkmdhncgahbaaGreatDoorL6
namespace Go.Proofs.YtchkmdhncgahbaaGreatDoor.ArithmeticExactF
open Go.ChangeShapes Go.WideShapes Go.ChangeAt Go.RowKit Go.Pv
theorem own : ownKnob Tryz.prog.godebug = none := by kernel_rfl
theorem laidOut : laidOutB Tryz.prog = true := by kernel_rfl
theorem lay0 : tyL Tryz.prog 8 29 = some tVec := by kernel_rfl
theorem lay1 : tyL Tryz.prog 8 29 = some tVec := by kernel_rfl
open Go.Pv.Dn
theorem wd_u16 {n : Int} (h : (Lit.int .u16 n).wf) : Go.Pv.Dn.Wd n := by
  have := bounds_u16 h
  unfold Go.Pv.Dn.Wd; omega
theorem wv_of {p : Vc} (h : TyOk tVec p) : Wv p := ⟨⟨wd_u16 h.1.1, wd_u16 h.1.2⟩, ⟨wd_u16 h.2.1.1, wd_u16 h.2.1.2⟩, ⟨wd_u16 h.2.2.1, wd_u16 h.2.2.2⟩⟩
theorem top_ar {p a : Vc} {w : Int} (hp : TyOk tVec p) (ha : TyOk tVec a) (hw : (Lit.int .u8 w).wf) : evalT Tryz.prog tt (callLw gl1) [] [] 4 [.agg tV3, .agg tV3, .val tU8] rB (p, a, w, ()) = some (true, ()) :=
  (e4_eq gl1 p a w).trans (ar_ok (wv_of hp) (wv_of ha) (bounds_u8 hw).1 (by have := (bounds_u8 hw).2; omega))
/-- a world for the witness -/
noncomputable def laidWorld (os : Os) : World :=
  { World.holding Tryz.prog os ⟨#[], #[], []⟩ with heap := (World.holding Tryz.prog os ⟨#[], #[], []⟩).heap.modify 0 fun
      | .cells _ t frozen => .cells #[.int .i64 8, .int .i64 (-483), .int .i64 21534, .int .i64 (-628374), .int .i64 10696163, .int .i64 (-86699834), .int .i64 210828714] t frozen
      | o => o }
theorem reads : ∀ t ∈ Tryz.f4.params.toList, Tryz.prog.readableRec t = true ∧ t < Tryz.prog.types.size := by
  rw [Tryz.params4]
  intro t ht
  simp at ht
  rcases ht with rfl | rfl | rfl <;> exact ⟨by kernel_rfl, of_decide_eq_true (by kernel_rfl)⟩
set_option maxRecDepth 100000 in
theorem laid_met (os : Os) : laidMet Tryz.prog Rows.arithmeticExactRow.laid ((laidWorld os).forCall (fun _ _ => 0) ⟨#[], #[.agg #[.int .u16 0, .int .u16 0, .int .u16 0, .int .u16 0, .int .u16 0, .int .u16 0], .agg #[.int .u16 0, .int .u16 0, .int .u16 0, .int .u16 0, .int .u16 0, .int .u16 0], .int .u8 0], []⟩).memory :=
  laidMet_of_run' 8 (by kernel_rfl) (by kernel_rfl)
theorem readsW (os : Os) {H : Type} (enc : TypeId × Value → H) : ∃ places, DataW.whole enc Tryz.prog ((laidWorld os).forCall (fun _ _ => 0) ⟨#[], #[.agg #[.int .u16 0, .int .u16 0, .int .u16 0, .int .u16 0, .int .u16 0, .int .u16 0], .agg #[.int .u16 0, .int .u16 0, .int .u16 0, .int .u16 0, .int .u16 0, .int .u16 0], .int .u8 0], []⟩).memory Tryz.f4.params.toList Rows.arithmeticExactSpec.vars false (#[.agg #[.int .u16 0, .int .u16 0, .int .u16 0, .int .u16 0, .int .u16 0, .int .u16 0], .agg #[.int .u16 0, .int .u16 0, .int .u16 0, .int .u16 0, .int .u16 0, .int .u16 0], .int .u8 0] : Array Value).toList 8 = some ([.agg [.agg [.lit (.int .u16 0), .lit (.int .u16 0)], .agg [.lit (.int .u16 0), .lit (.int .u16 0)], .agg [.lit (.int .u16 0), .lit (.int .u16 0)]], .agg [.agg [.lit (.int .u16 0), .lit (.int .u16 0)], .agg [.lit (.int .u16 0), .lit (.int .u16 0)], .agg [.lit (.int .u16 0), .lit (.int .u16 0)]], .lit (.int .u8 0)], [], places) :=
  ⟨[], by kernel_rfl⟩
set_option maxRecDepth 100000 in
theorem lifted (os : Os) (started : os.Started) (H : Type) (enc : TypeId × Value → H) (F : Stop.Interp) :
    ReturnsInHanded {} Tryz.checked os 4 .any ((OpenSpec.ofChange Rows.arithmeticExactSpec).preRow enc Tryz.prog Tryz.f4 Rows.arithmeticExactRow.domain false Rows.arithmeticExactRow.laid) (((OpenSpec.ofChange Rows.arithmeticExactSpec).at F).post enc Tryz.prog Tryz.f4 false true false false) := by
  obtain ⟨places, hx⟩ := readsW os enc
  refine returnsInHanded_of_row (C := Tryz.checked) (s := OpenSpec.ofChange Rows.arithmeticExactSpec) own started (by kernel_rfl) Tryz.func4
    (witness_row_at (enc := enc) (C := Tryz.checked) false (laidWorld os) #[.agg #[.int .u16 0, .int .u16 0, .int .u16 0, .int .u16 0, .int .u16 0, .int .u16 0], .agg #[.int .u16 0, .int .u16 0, .int .u16 0, .int .u16 0, .int .u16 0, .int .u16 0], .int .u8 0] rfl (by kernel_rfl) (by kernel_rfl) (by kernel_rfl)
      (OpenSpec.preRow_of_cond 8 hx (by kernel_rfl) (fun k hk => by cases hk) (by kernel_rfl) (laid_met os))) ?_
  intro W base args ds gs before hval0 hW _ _ _ hL _ _
  have hval : ∀ (j : Nat) t v, Tryz.f4.params[j]? = some t → args[j]? = some v → Value.okWide Tryz.prog W .any base t v := hval0
  have hW' := hW
  obtain ⟨p, q, hA0, hV, rfl, hfz, hnd⟩ := hW
  have hA : DataW.TrodAll enc Tryz.prog W 0 (fun _ => true) true Tryz.f4.params.toList args.toList ds p := hA0
  have hA1 := hA
  rw [Tryz.params4] at hA hval
  obtain ⟨v0, vs0, d0, ds0, p0, q0, hargs, rfl, rfl, h0, r0⟩ := trodAll_cons hA
  obtain ⟨v1, vs1, d1, ds1, p1, q1, rfl, rfl, rfl, h1, r1⟩ := trodAll_cons r0
  obtain ⟨v2, vs2, d2, ds2, p2, q2, rfl, rfl, rfl, h2, r2⟩ := trodAll_cons r1
  obtain ⟨rfl, rfl, rfl⟩ := trodAll_nil r2
  obtain rfl : args = #[v0, v1, v2] := by cases args; simp_all
  obtain ⟨rfl, rfl⟩ := trodVars_none hV
  have hlt : ∀ x ∈ p0 ++ (p1 ++ (p2 ++ [])), x.block < W.heap.size := fun x hx => by simpa using hW'.lt x (by simpa using hx)
  obtain ⟨x0, o0, rv0⟩ := arr_RV Tryz.underlying29 lay0 (hval 0 29 v0 rfl rfl) h0 (β := fun _ => none) (M := fun _ => .none) (Z := fun cb => cb < W.heap.size)
  obtain ⟨x1, o1, rv1⟩ := arr_RV Tryz.underlying29 lay1 (hval 1 29 v1 rfl rfl) h1 (β := fun _ => none) (M := fun _ => .none) (Z := fun cb => cb < W.heap.size)
  obtain ⟨n2, w2, rv2⟩ := int_RV Tryz.underlying5 (hval 2 5 v2 rfl rfl) h2 (β := fun _ => none) (M := fun _ => .none) (Z := fun cb => cb < W.heap.size) (h := W.heap)
  have hcalls := calls_trueT tt_ok mixed names okl1 ((top_ar o0 o1 w2)) (Go.Pv.cntN 4 (by kernel_rfl)) (β := fun _ => none) (Z := fun cb => cb < W.heap.size) (w := W) (cargs := [v0, v1, v2]) (gi hL) (RL.cons rv0 (RL.cons rv1 (RL.cons rv2 RL.nil)))
  refine hcalls.mono fun e W' ⟨he, hg, hh⟩ => ?_
  subst he
  exact ⟨_, rfl, post_same0 (pa := p0 ++ (p1 ++ (p2 ++ []))) (pv := []) hW' (fun _ _ _ => (trodAll_cons_mk (shut_bool Tryz.underlying4 _) trodAll_mk0)) (fun sp hsp => trodAll_stays laidOut hh reads hA1 hlt (fun y hy => hsp y (by simpa using hy))) (fun _ _ => rfl) rfl
    (hg.frame _)⟩

theorem said : Rows.ArithmeticExactSaid :=
  OpenClaim.holds_of_cond 4 Tryz.f4 rfl rfl rfl rfl rfl rfl rfl ⟨rfl, rfl, rfl, rfl, rfl⟩ rfl rfl rfl rfl rfl (by kernel_rfl) Tryz.func4 (by kernel_rfl)
    (of_decide_eq_true (by kernel_rfl)) (by unfold Func.isWrapper; first | (rw [if_pos (by decide +kernel)]; kernel_rfl) | (rw [if_neg (by decide +kernel)]; exact ⟨rfl, rfl⟩))
    (fun os started H enc _ F => by rw [OpenClaim.pre_eq_preRow]; exact lifted os started H enc F)
theorem plain (f : FuncId) (fn : Func) (hf : Tryz.pinned.checked.prog.funcNamed "perilune/perilunetop.ArithmeticExact" = some f) (hfn : Tryz.pinned.checked.prog.funcs[f]? = some fn) :
    false = Tryz.pinned.checked.prog.looks [] ∧ ∀ (j : Nat) t, fn.params[j]? = some t → Tryz.pinned.checked.prog.wantsStandIn t = false := by
  obtain rfl : f = 4 := Option.some.inj ((show Tryz.prog.funcNamed "perilune/perilunetop.ArithmeticExact" = some 4 by kernel_rfl).symm.trans hf) |>.symm
  obtain rfl : fn = Tryz.f4 := (Option.some.inj (Tryz.func4.symm.trans hfn)).symm
  refine ⟨by kernel_rfl, fun j t ht => ?_⟩
  rw [Tryz.params4] at ht
  have hm : t ∈ [29, 29, 5] := by
    have := Array.mem_of_getElem? ht
    simpa using this
  have hall : ∀ t ∈ [29, 29, 5], Tryz.prog.wantsStandIn t = false := by
    intro t h
    simp at h
    rcases h with rfl | rfl | rfl <;> kernel_rfl
  exact hall t hm
end Go.Proofs.YtchkmdhncgahbaaGreatDoor.ArithmeticExactF
namespace Go.Proofs.YtchkmdhncgahbaaGreatDoor

/-- the card -/
theorem arithmeticExactTied : Rows.ArithmeticExactCardSaid :=
  Claim7.holds_tied_plain_at .later [] _ _ _ _ ArithmeticExactF.said (fun _ h => by cases h) (by kernel_rfl) (fun _ h => by cases h) arithmeticExact_row_tie rfl ⟨rfl, rfl⟩ (by kernel_rfl) rfl ArithmeticExactF.plain (by kernel_rfl)
#print axioms arithmeticExactTied
end Go.Proofs.YtchkmdhncgahbaaGreatDoor
