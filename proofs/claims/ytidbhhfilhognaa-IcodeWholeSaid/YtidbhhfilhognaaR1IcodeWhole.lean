/-
  For all instructions and words, the law IcodeWhole returns true, and its input reads as it did.
-/
import Derived.Test.YtidbhhfilhognaaRows
import Derived.ProofKit
import Derived.WalkKit
import Derived.OpenShut
import Derived.Test.YtidbhhfilhognaaPvRead2
import Derived.Test.YtidbhhfilhognaaR1TopLaw
namespace Go.Proofs.Ytidbhhfilhognaa.IcodeWholeF
open Go.ChangeShapes Go.WideShapes Go.ChangeAt Go.RowKit Go.Pv
theorem own : ownKnob Try.prog.godebug = none := by kernel_rfl
theorem laidOut : laidOutB Try.prog = true := by kernel_rfl
theorem lay0 : tyL Try.prog 6 30 = some tInstr := by kernel_rfl
theorem cel0 : Try.prog.cellsOf 30 = (tInstr : Ty).size := by kernel_rfl
theorem lay1 : tyL Try.prog 6 24 = some tW := by kernel_rfl
theorem cel1 : Try.prog.cellsOf 24 = (tW : Ty).size := by kernel_rfl
theorem words_of {l : List Int} (h : ∀ x ∈ l, TyOk tW x) : Words l := fun w hw => bounds_u16 (h w hw)
theorem in_of {x : In} (h : TyOk tInstr x) : InOK x := ⟨bounds_u8 h.1, bounds_u16 h.2.2.2.1.1, bounds_u16 h.2.2.2.1.2, bounds_u16 h.2.2.2.2.1.1, bounds_u16 h.2.2.2.2.1.2, bounds_u16 h.2.2.2.2.2.1, bounds_u16 h.2.2.2.2.2.2⟩
theorem reads : ∀ t ∈ Try.f9.params.toList, Try.prog.readableRec t = true ∧ t < Try.prog.types.size := by
  rw [Try.params9]
  intro t ht
  simp at ht
  rcases ht with rfl | rfl <;> exact ⟨by kernel_rfl, of_decide_eq_true (by kernel_rfl)⟩
set_option maxRecDepth 100000 in
theorem lifted (os : Os) (started : os.Started) (H : Type) (enc : TypeId × Value → H) :
    ReturnsInHanded {} Try.checked os 9 .any (Rows.icodeWholeSpec.pre6 enc Try.prog Try.f9 Rows.icodeWholeRow.domain false) (Rows.icodeWholeSpec.post enc Try.prog Try.f9 false true false false) := by
  refine returnsInHanded_of_change (C := Try.checked) own started (by kernel_rfl) Try.func9
    (ChangeSpec.witness6 (enc := enc) (C := Try.checked) false ⟨#[], #[.slice none 0 0, .slice none 0 0], []⟩ 8 (by kernel_rfl) (by kernel_rfl) (by kernel_rfl) (by kernel_rfl)) ?_
  intro W base args ds gs before hval0 hW hcnd _
  have hval : ∀ (j : Nat) t v, Try.f9.params[j]? = some t → args[j]? = some v → Value.okWide Try.prog W .any base t v := hval0
  have hW' := hW
  obtain ⟨p, q, hA0, hV, rfl, hfz, hnd⟩ := hW
  have hA : DataW.TrodAll enc Try.prog W 0 (fun _ => true) true Try.f9.params.toList args.toList ds p := hA0
  have hA1 := hA
  rw [Try.params9] at hA hval
  obtain ⟨v0, vs0, d0, ds0, p0, q0, hargs, rfl, rfl, h0, r0⟩ := trodAll_cons hA
  obtain ⟨v1, vs1, d1, ds1, p1, q1, rfl, rfl, rfl, h1, r1⟩ := trodAll_cons r0
  obtain ⟨rfl, rfl, rfl⟩ := trodAll_nil r1
  obtain rfl : args = #[v0, v1] := by cases args; simp_all
  obtain ⟨rfl, rfl⟩ := trodVars_none hV
  have hlt : ∀ x ∈ p0 ++ (p1 ++ []), x.block < W.heap.size := fun x hx => by simpa using hW'.lt x (by simpa using hx)
  obtain ⟨l0, x0, len0, rv0⟩ := slice_RV Try.underlying56 lay0 cel0 (hval 0 56 v0 rfl rfl) h0 (β := fun _ => none) (M := fun _ => .none)
  obtain ⟨l1, x1, len1, rv1⟩ := slice_RV Try.underlying32 lay1 cel1 (hval 1 32 v1 rfl rfl) h1 (β := fun _ => none) (M := fun _ => .none)
  have hcalls := calls_true tt_ok mixed names callT_ok (top9 (fun x hx => in_of (x0 x hx)) len0 ⟨words_of x1, len1⟩) cnt9 (β := fun _ => none) (Z := fun cb => cb < W.heap.size) (w := W) (cargs := [v0, v1]) (fun _ h => h) (RL.cons rv0 (RL.cons rv1 RL.nil))
  refine hcalls.mono fun e W' ⟨he, hg, hh⟩ => ?_
  subst he
  exact ⟨_, rfl, post_of_same (pa := p0 ++ (p1 ++ [])) (pv := []) hW' (fun _ _ _ => (trodAll_cons_mk (shut_bool Try.underlying4 _) trodAll_mk0)) (fun sp hsp => trodAll_stays laidOut hh reads hA1 hlt (fun y hy => hsp y (by simpa using hy))) (fun _ _ => rfl) rfl
    (hg.frame _) hg.2.1 (ok_one (by kernel_rfl) rfl (okWide_bool_mk Try.underlying4 _))⟩

theorem over : Rows.icodeWholeRow.holds Try.pinned (OpenSpec.ofChange Rows.icodeWholeSpec) :=
  OpenClaim.holds_of_wide 9 Try.f9 rfl rfl rfl rfl rfl rfl rfl ⟨rfl, rfl, rfl, rfl, rfl⟩ rfl rfl rfl rfl rfl (by kernel_rfl) Try.func9 (by kernel_rfl)
    (of_decide_eq_true (by kernel_rfl)) (by unfold Func.isWrapper; first | (rw [if_pos (by decide +kernel)]; kernel_rfl) | (rw [if_neg (by decide +kernel)]; exact ⟨rfl, rfl⟩))
    (fun os started H enc _ => lifted os started H enc)
end Go.Proofs.Ytidbhhfilhognaa.IcodeWholeF
namespace Go.Proofs.Ytidbhhfilhognaa

theorem icodeWhole : Rows.IcodeWholeSaid :=
  IcodeWholeF.over
#print axioms icodeWhole
end Go.Proofs.Ytidbhhfilhognaa
