/-
  For all doubles, the law QuotientExact returns true, and its input reads as it did.
-/
import Derived.Test.YtchkmdhncgahbaaGreatDoorCards
import Derived.Test.YtchkmdhncgahbaaGreatDoorTie
import Derived.Deep.DeepHandedRow
import Derived.Test.YtchkmdhncgahbaaGreatDoorRows
import Derived.ProofKit
import Derived.WalkKit
import Derived.OpenShut
import Derived.Test.YtchkmdhncgahbaaGreatDoorL6
namespace Go.Proofs.YtchkmdhncgahbaaGreatDoor.QuotientExactF
open Go.ChangeShapes Go.WideShapes Go.ChangeAt Go.RowKit Go.Pv
theorem own : ownKnob Tryz.prog.godebug = none := by kernel_rfl
theorem laidOut : laidOutB Tryz.prog = true := by kernel_rfl
theorem lay0 : tyL Tryz.prog 6 25 = some (.pair tW tW) := by kernel_rfl
theorem lay1 : tyL Tryz.prog 6 25 = some (.pair tW tW) := by kernel_rfl
open Go.Pv.Dn
theorem wd_u16 {n : Int} (h : (Lit.int .u16 n).wf) : Go.Pv.Dn.Wd n := by
  have := bounds_u16 h
  unfold Go.Pv.Dn.Wd; omega
theorem top_qu {p a : Db} (hp : TyOk (.pair tW tW) p) (ha : TyOk (.pair tW tW) a) : evalT Tryz.prog tt (callLw gl1) [] [] 3 [.agg tDb, .agg tDb] rB (p, a, ()) = some (true, ()) :=
  (e3_eq gl1 p a).trans (qu_ok ⟨wd_u16 hp.1, wd_u16 hp.2⟩ ⟨wd_u16 ha.1, wd_u16 ha.2⟩)
/-- a world for the witness -/
noncomputable def laidWorld (os : Os) : World :=
  { World.holding Tryz.prog os ⟨#[], #[], []⟩ with heap := (World.holding Tryz.prog os ⟨#[], #[], []⟩).heap.modify 0 fun
      | .cells _ t frozen => .cells #[.int .i64 8, .int .i64 (-483), .int .i64 21534, .int .i64 (-628374), .int .i64 10696163, .int .i64 (-86699834), .int .i64 210828714] t frozen
      | o => o }
theorem reads : ∀ t ∈ Tryz.f3.params.toList, Tryz.prog.readableRec t = true ∧ t < Tryz.prog.types.size := by
  rw [Tryz.params3]
  intro t ht
  simp at ht
  subst ht
  exact ⟨by kernel_rfl, of_decide_eq_true (by kernel_rfl)⟩
set_option maxRecDepth 100000 in
theorem laid_met (os : Os) : laidMet Tryz.prog Rows.quotientExactRow.laid ((laidWorld os).forCall (fun _ _ => 0) ⟨#[], #[.agg #[.int .u16 0, .int .u16 0], .agg #[.int .u16 0, .int .u16 0]], []⟩).memory :=
  laidMet_of_run' 8 (by kernel_rfl) (by kernel_rfl)
theorem readsW (os : Os) {H : Type} (enc : TypeId × Value → H) : ∃ places, DataW.whole enc Tryz.prog ((laidWorld os).forCall (fun _ _ => 0) ⟨#[], #[.agg #[.int .u16 0, .int .u16 0], .agg #[.int .u16 0, .int .u16 0]], []⟩).memory Tryz.f3.params.toList Rows.quotientExactSpec.vars false (#[.agg #[.int .u16 0, .int .u16 0], .agg #[.int .u16 0, .int .u16 0]] : Array Value).toList 8 = some ([.agg [.lit (.int .u16 0), .lit (.int .u16 0)], .agg [.lit (.int .u16 0), .lit (.int .u16 0)]], [], places) :=
  ⟨[], by kernel_rfl⟩
set_option maxRecDepth 100000 in
theorem lifted (os : Os) (started : os.Started) (H : Type) (enc : TypeId × Value → H) (F : Stop.Interp) :
    ReturnsInHanded {} Tryz.checked os 3 .any ((OpenSpec.ofChange Rows.quotientExactSpec).preRow enc Tryz.prog Tryz.f3 Rows.quotientExactRow.domain false Rows.quotientExactRow.laid) (((OpenSpec.ofChange Rows.quotientExactSpec).at F).post enc Tryz.prog Tryz.f3 false true false false) := by
  obtain ⟨places, hx⟩ := readsW os enc
  refine returnsInHanded_of_row (C := Tryz.checked) (s := OpenSpec.ofChange Rows.quotientExactSpec) own started (by kernel_rfl) Tryz.func3
    (witness_row_at (enc := enc) (C := Tryz.checked) false (laidWorld os) #[.agg #[.int .u16 0, .int .u16 0], .agg #[.int .u16 0, .int .u16 0]] rfl (by kernel_rfl) (by kernel_rfl) (by kernel_rfl)
      (OpenSpec.preRow_of_cond 8 hx (by kernel_rfl) (fun k hk => by cases hk) (by kernel_rfl) (laid_met os))) ?_
  intro W base args ds gs before hval0 hW _ _ _ hL _ _
  have hval : ∀ (j : Nat) t v, Tryz.f3.params[j]? = some t → args[j]? = some v → Value.okWide Tryz.prog W .any base t v := hval0
  have hW' := hW
  obtain ⟨p, q, hA0, hV, rfl, hfz, hnd⟩ := hW
  have hA : DataW.TrodAll enc Tryz.prog W 0 (fun _ => true) true Tryz.f3.params.toList args.toList ds p := hA0
  have hA1 := hA
  rw [Tryz.params3] at hA hval
  obtain ⟨v0, vs0, d0, ds0, p0, q0, hargs, rfl, rfl, h0, r0⟩ := trodAll_cons hA
  obtain ⟨v1, vs1, d1, ds1, p1, q1, rfl, rfl, rfl, h1, r1⟩ := trodAll_cons r0
  obtain ⟨rfl, rfl, rfl⟩ := trodAll_nil r1
  obtain rfl : args = #[v0, v1] := by cases args; simp_all
  obtain ⟨rfl, rfl⟩ := trodVars_none hV
  have hlt : ∀ x ∈ p0 ++ (p1 ++ []), x.block < W.heap.size := fun x hx => by simpa using hW'.lt x (by simpa using hx)
  obtain ⟨x0, o0, rv0⟩ := arr_RV Tryz.underlying25 lay0 (hval 0 25 v0 rfl rfl) h0 (β := fun _ => none) (M := fun _ => .none) (Z := fun cb => cb < W.heap.size)
  obtain ⟨x1, o1, rv1⟩ := arr_RV Tryz.underlying25 lay1 (hval 1 25 v1 rfl rfl) h1 (β := fun _ => none) (M := fun _ => .none) (Z := fun cb => cb < W.heap.size)
  have hcalls := calls_trueT tt_ok mixed names okl1 ((top_qu o0 o1)) (Go.Pv.cntN 3 (by kernel_rfl)) (β := fun _ => none) (Z := fun cb => cb < W.heap.size) (w := W) (cargs := [v0, v1]) (gi hL) (RL.cons rv0 (RL.cons rv1 RL.nil))
  refine hcalls.mono fun e W' ⟨he, hg, hh⟩ => ?_
  subst he
  exact ⟨_, rfl, post_same0 (pa := p0 ++ (p1 ++ [])) (pv := []) hW' (fun _ _ _ => (trodAll_cons_mk (shut_bool Tryz.underlying4 _) trodAll_mk0)) (fun sp hsp => trodAll_stays laidOut hh reads hA1 hlt (fun y hy => hsp y (by simpa using hy))) (fun _ _ => rfl) rfl
    (hg.frame _)⟩

theorem said : Rows.QuotientExactSaid :=
  OpenClaim.holds_of_cond 3 Tryz.f3 rfl rfl rfl rfl rfl rfl rfl ⟨rfl, rfl, rfl, rfl, rfl⟩ rfl rfl rfl rfl rfl (by kernel_rfl) Tryz.func3 (by kernel_rfl)
    (of_decide_eq_true (by kernel_rfl)) (by unfold Func.isWrapper; first | (rw [if_pos (by decide +kernel)]; kernel_rfl) | (rw [if_neg (by decide +kernel)]; exact ⟨rfl, rfl⟩))
    (fun os started H enc _ F => by rw [OpenClaim.pre_eq_preRow]; exact lifted os started H enc F)
theorem plain (f : FuncId) (fn : Func) (hf : Tryz.pinned.checked.prog.funcNamed "perilune/perilunetop.QuotientExact" = some f) (hfn : Tryz.pinned.checked.prog.funcs[f]? = some fn) :
    false = Tryz.pinned.checked.prog.looks [] ∧ ∀ (j : Nat) t, fn.params[j]? = some t → Tryz.pinned.checked.prog.wantsStandIn t = false := by
  obtain rfl : f = 3 := Option.some.inj ((show Tryz.prog.funcNamed "perilune/perilunetop.QuotientExact" = some 3 by kernel_rfl).symm.trans hf) |>.symm
  obtain rfl : fn = Tryz.f3 := (Option.some.inj (Tryz.func3.symm.trans hfn)).symm
  refine ⟨by kernel_rfl, fun j t ht => ?_⟩
  rw [Tryz.params3] at ht
  have hm : t ∈ [25, 25] := by
    have := Array.mem_of_getElem? ht
    simpa using this
  have hall : ∀ t ∈ [25, 25], Tryz.prog.wantsStandIn t = false := by
    intro t h
    simp at h
    subst h; kernel_rfl
  exact hall t hm
end Go.Proofs.YtchkmdhncgahbaaGreatDoor.QuotientExactF
namespace Go.Proofs.YtchkmdhncgahbaaGreatDoor

/-- the card -/
theorem quotientExactTied : Rows.QuotientExactCardSaid :=
  Claim7.holds_tied_plain_at .later [] _ _ _ _ QuotientExactF.said (fun _ h => by cases h) (by kernel_rfl) (fun _ h => by cases h) quotientExact_row_tie rfl ⟨rfl, rfl⟩ (by kernel_rfl) rfl QuotientExactF.plain (by kernel_rfl)
#print axioms quotientExactTied
end Go.Proofs.YtchkmdhncgahbaaGreatDoor
