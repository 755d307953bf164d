/-
  For every instruction, the law IcodeEncodes returns true, and its input reads as it did.
-/
import Derived.Test.YtidbhhfilhognaaRows
import Derived.ProofKit
import Derived.WalkKit
import Derived.OpenShut
import Derived.Test.YtidbhhfilhognaaPvRead
import Derived.Test.YtidbhhfilhognaaR1Top3
namespace Go.Proofs.Ytidbhhfilhognaa
open Go.ChangeShapes Go.WideShapes Go.ChangeAt Go.RowKit Go.Pv

theorem own : ownKnob Try.prog.godebug = none := by kernel_rfl
theorem laidOut : laidOutB Try.prog = true := by kernel_rfl
theorem instrL : tyL Try.prog 6 30 = some tInstr := by kernel_rfl

/-- an argument of aggregate type -/
theorem open_agg {H : Type} {enc : TypeId × Value → H} {W : World} {base : Nat} {v : Value} {d : DataW H} {ps : List MemPlace} (hval : Value.okWide Try.prog W .any base 30 v)
    (hd : DataW.Trod enc Try.prog W 0 (fun _ => true) true 30 v d ps) {Z : Nat → Prop} {β : Nat → Option Go.Pv.Loc} {M : Mem} :
    ∃ x : tInstr.den, TyOk tInstr x ∧ RV β M Z W.heap (.agg (Go.Pv.enc tInstr x)) v := by
  obtain ⟨fuel, hf⟩ := hd
  obtain ⟨x, h1, h2⟩ := trod_RD (Z := Z) (h := W.heap) 6 fuel 30 tInstr _ _ instrL hf
  have hag : ∃ cs, v = .agg cs := by
    unfold Value.okWide at hval
    rw [Try.underlying30] at hval
    obtain ⟨cs, h, _⟩ := hval
    exact ⟨cs, h⟩
  obtain ⟨cs, rfl⟩ := hag
  refine ⟨x, h2, ?_⟩
  obtain ⟨e1, e2⟩ := RL.to_arr (vs := cs) (RL.of_RD (β := β) (M2 := M) h1)
  exact .agg _ _ e1 e2

theorem read3 : ∀ t ∈ Try.f3.params.toList, Try.prog.readableRec t = true ∧ t < Try.prog.types.size := by
  rw [Try.params3]
  intro t ht
  simp at ht
  subst ht
  exact ⟨by kernel_rfl, of_decide_eq_true (by kernel_rfl)⟩

set_option maxRecDepth 100000 in
theorem lifted (os : Os) (started : os.Started) (H : Type) (enc : TypeId × Value → H) :
    ReturnsInHanded {} Try.checked os 3 .any (Rows.icodeEncodesSpec.pre6 enc Try.prog Try.f3 Rows.icodeEncodesRow.domain false) (Rows.icodeEncodesSpec.post enc Try.prog Try.f3 false true false false) := by
  refine returnsInHanded_of_change (C := Try.checked) own started (by kernel_rfl) Try.func3
    (ChangeSpec.witness6 (enc := enc) (C := Try.checked) false ⟨#[], #[.agg #[.int .u8 0, .int .i64 0, .int .i64 0, .int .u16 0, .int .u16 0, .int .u16 0, .int .u16 0, .int .u16 0, .int .u16 0]], []⟩ 8 (by kernel_rfl) (by kernel_rfl) (by kernel_rfl) (by kernel_rfl)) ?_
  intro W base args ds gs before hval0 hW hcnd _
  have hval : ∀ (j : Nat) t v, Try.f3.params[j]? = some t → args[j]? = some v → Value.okWide Try.prog W .any base t v := hval0
  have hW' := hW
  obtain ⟨p, q, hA0, hV, rfl, hfz, hnd⟩ := hW
  have hA : DataW.TrodAll enc Try.prog W 0 (fun _ => true) true Try.f3.params.toList args.toList ds p := hA0
  have hA1 := hA
  rw [Try.params3] at hA hval
  obtain ⟨v0, vs0, d0, ds0, p0, q0, hargs, rfl, rfl, h0, r0⟩ := trodAll_cons hA
  obtain ⟨rfl, rfl, rfl⟩ := trodAll_nil r0
  obtain rfl : args = #[v0] := by cases args; simp_all
  obtain ⟨rfl, rfl⟩ := trodVars_none hV
  have hlt : ∀ x ∈ p0 ++ [], x.block < W.heap.size := fun x hx => by simpa using hW'.lt x (by simpa using hx)
  obtain ⟨x, hx, hrv⟩ := open_agg (hval 0 30 v0 rfl rfl) h0 (Z := fun _ => False) (β := fun _ => none) (M := fun _ => .none)
  have hb := bounds_u8 (show (Lit.int .u8 x.1).wf = true from hx.1)
  have hcalls := calls_true tt_ok mixed names call3_ok (top3 x hb.1 hb.2) count3 (β := fun _ => none) (Z := fun _ => False) (w := W) (cargs := [v0]) (fun _ h => h.elim) (RL.cons hrv RL.nil)
  refine hcalls.mono fun e W' ⟨he, hg, hh⟩ => ?_
  subst he
  exact ⟨_, rfl, post_of_same (pa := p0 ++ []) (pv := []) hW' (fun _ _ _ => (trodAll_cons_mk (shut_bool Try.underlying4 _) trodAll_mk0)) (fun sp hsp => trodAll_stays laidOut hh read3 hA1 hlt (fun y hy => hsp y (by simpa using hy))) (fun _ _ => rfl) rfl
    (hg.frame _) hg.2.1 (ok_one (by kernel_rfl) rfl (okWide_bool_mk Try.underlying4 _))⟩

theorem over : Rows.icodeEncodesRow.holds Try.pinned (OpenSpec.ofChange Rows.icodeEncodesSpec) :=
  OpenClaim.holds_of_wide 3 Try.f3 rfl rfl rfl rfl rfl rfl rfl ⟨rfl, rfl, rfl, rfl, rfl⟩ rfl rfl rfl rfl rfl (by kernel_rfl) Try.func3 (by kernel_rfl)
    (of_decide_eq_true (by kernel_rfl)) (by unfold Func.isWrapper; first | (rw [if_pos (by decide +kernel)]; kernel_rfl) | (rw [if_neg (by decide +kernel)]; exact ⟨rfl, rfl⟩))
    (fun os started H enc _ => lifted os started H enc)

theorem icodeEncodes : Rows.IcodeEncodesSaid :=
  over
#print axioms icodeEncodes
end Go.Proofs.Ytidbhhfilhognaa
