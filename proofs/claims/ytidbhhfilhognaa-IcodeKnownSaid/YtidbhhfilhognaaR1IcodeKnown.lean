/-
  The law IcodeKnown, which takes no input, returns true.
-/
import Derived.Test.YtidbhhfilhognaaRows
import Derived.ProofKit
import Derived.WalkKit
import Derived.OpenShut
import Derived.Test.YtidbhhfilhognaaPvRead
import Derived.Test.YtidbhhfilhognaaR1Base
namespace Go.Pv
open Go.Proofs
set_option maxRecDepth 1000000
def specs1 (R : Type) (f : FuncId) : Option (List V → Mem → Nat → (Eff → Option R) → Option R) :=
  match f with
  | 43 => some (constE rowsLit)
  | 11 => some (constE (.bool true))
  | _ => none
theorem specs1_ok (R : Type) : SpecOK Try.prog (specs1 R) := by
  intro f s hs
  unfold specs1 at hs
  split at hs
  · cases hs; exact constE_ok rowsOK
  · cases hs; exact constE_ok livesOK
  · cases hs
noncomputable def call1 (R : Type) : CallE R := callsE Try.prog tt (specs1 R) 20
theorem call1_ok (R : Type) : CallsOK Try.prog (call1 R) := callsE_ok tt_ok mixed names (specs1_ok R) 20
theorem top7 : evalF Try.prog tt call1 [] 7 [] [.val .bool] () = some (true, ()) := by kernel_rfl
theorem count7 (fn : Func) (h : Try.prog.funcs[7]? = some fn) : fn.results.size = 1 := by
  have : (Try.prog.funcs[7]?).map (fun fn => fn.results.size) = some 1 := by kernel_rfl
  rw [h] at this; simpa using this
end Go.Pv
namespace Go.Proofs.Ytidbhhfilhognaa.Known
open Go.ChangeShapes Go.WideShapes Go.ChangeAt Go.RowKit Go.Pv

theorem own : ownKnob Try.prog.godebug = none := by kernel_rfl

set_option maxRecDepth 100000 in
theorem lifted (os : Os) (started : os.Started) (H : Type) (enc : TypeId × Value → H) :
    ReturnsInHanded {} Try.checked os 7 .any (Rows.icodeKnownSpec.pre6 enc Try.prog Try.f7 Rows.icodeKnownRow.domain false) (Rows.icodeKnownSpec.post enc Try.prog Try.f7 false true false false) := by
  refine returnsInHanded_of_change (C := Try.checked) own started (by kernel_rfl) Try.func7
    (ChangeSpec.witness6 (enc := enc) (C := Try.checked) false ⟨#[], #[], []⟩ 8 (by kernel_rfl) (by kernel_rfl) (by kernel_rfl) (by kernel_rfl)) ?_
  intro W base args ds gs before hval0 hW hcnd _
  have hW' := hW
  obtain ⟨p, q, hA0, hV, rfl, hfz, hnd⟩ := hW
  have hA : DataW.TrodAll enc Try.prog W 0 (fun _ => true) true Try.f7.params.toList args.toList ds p := hA0
  rw [Try.params7] at hA
  obtain ⟨hargs, rfl, rfl⟩ := trodAll_nil hA
  obtain rfl : args = #[] := by cases args; simp_all
  obtain ⟨rfl, rfl⟩ := trodVars_none hV
  have hcalls := calls_true tt_ok mixed names call1_ok top7 count7 (β := fun _ => none) (Z := fun _ => False) (w := W) (cargs := []) (fun _ h => h.elim) RL.nil
  refine hcalls.mono fun e W' ⟨he, hg, hh⟩ => ?_
  subst he
  exact ⟨_, rfl, post_of_same (pa := []) (pv := []) hW' (fun _ _ _ => (trodAll_cons_mk (shut_bool Try.underlying4 _) trodAll_mk0)) (fun _ _ => trodAll_mk0) (fun _ _ => rfl) rfl
    (hg.frame _) hg.2.1 (ok_one (by kernel_rfl) rfl (okWide_bool_mk Try.underlying4 _))⟩

theorem over : Rows.icodeKnownRow.holds Try.pinned (OpenSpec.ofChange Rows.icodeKnownSpec) :=
  OpenClaim.holds_of_wide 7 Try.f7 rfl rfl rfl rfl rfl rfl rfl ⟨rfl, rfl, rfl, rfl, rfl⟩ rfl rfl rfl rfl rfl (by kernel_rfl) Try.func7 (by kernel_rfl)
    (of_decide_eq_true (by kernel_rfl)) (by unfold Func.isWrapper; first | (rw [if_pos (by decide +kernel)]; kernel_rfl) | (rw [if_neg (by decide +kernel)]; exact ⟨rfl, rfl⟩))
    (fun os started H enc _ => lifted os started H enc)

end Go.Proofs.Ytidbhhfilhognaa.Known
namespace Go.Proofs.Ytidbhhfilhognaa

theorem icodeKnown : Rows.IcodeKnownSaid :=
  Known.over
#print axioms icodeKnown
end Go.Proofs.Ytidbhhfilhognaa
