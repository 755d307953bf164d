/-
  For every list of words and every index, the law IcodeDecodes returns true, and its input reads as it did.
-/
import Derived.Test.YtidbhhfilhognaaRows
import Derived.ProofKit
import Derived.WalkKit
import Derived.OpenShut
import Derived.Test.YtidbhhfilhognaaPvRead2
import Derived.Test.YtidbhhfilhognaaR1DecFn
namespace Go.Pv
open Go.Proofs
set_option maxRecDepth 1000000
abbrev GDec := Sig.den sDec → Option (Shape.den (resShape 0 rDec))
def specs4 (G15 G16 : GDec) (R : Type) (f : FuncId) : Option (List V → Mem → Nat → (Eff → Option R) → Option R) :=
  match f with
  | 11 => some (constE (.bool true))
  | 15 => some (specE sDec rDec G15)
  | 16 => some (specE sDec rDec G16)
  | _ => none
noncomputable def call4 (G15 G16 : GDec) (R : Type) : CallE R := callsE Try.prog tt (specs4 G15 G16 R) 20
noncomputable abbrev e4 (G15 G16 : GDec) (l : List Int) (i : Int) : Option (Bool × Unit) := evalF Try.prog tt (call4 G15 G16) [] 4 sDec [.val .bool] (l, i, ())

theorem e4_eq (G15 G16 : GDec) (l : List Int) (i : Int) : e4 G15 G16 l i = match G15 (l, i, ()) with
    | none => none
    | some y => match G16 (l, i, ()) with
      | none => none
      | some z => bif y.1.1 == z.1.1 && (y.1.2.1 == z.1.2.1 && (y.1.2.2.1 == z.1.2.2.1 && ((y.1.2.2.2.1.1 == z.1.2.2.2.1.1 && (y.1.2.2.2.1.2 == z.1.2.2.2.1.2 && true)) &&
          ((y.1.2.2.2.2.1.1 == z.1.2.2.2.2.1.1 && (y.1.2.2.2.2.1.2 == z.1.2.2.2.2.1.2 && true)) && ((y.1.2.2.2.2.2.1 == z.1.2.2.2.2.2.1 && (y.1.2.2.2.2.2.2 == z.1.2.2.2.2.2.2 && true)) && true)) && true)))
        then bif y.2.1 == z.2.1 then some (y.2.2.1 == z.2.2.1, ()) else some (false, ()) else some (false, ()) := by kernel_rfl

theorem count15 (fn : Func) (h : Try.prog.funcs[15]? = some fn) : fn.results.size = 3 := by
  have : (Try.prog.funcs[15]?).map (fun fn => fn.results.size) = some 3 := by kernel_rfl
  rw [h] at this; simpa using this
theorem count16 (fn : Func) (h : Try.prog.funcs[16]? = some fn) : fn.results.size = 3 := by
  have : (Try.prog.funcs[16]?).map (fun fn => fn.results.size) = some 3 := by kernel_rfl
  rw [h] at this; simpa using this
theorem count4 (fn : Func) (h : Try.prog.funcs[4]? = some fn) : fn.results.size = 1 := by
  have : (Try.prog.funcs[4]?).map (fun fn => fn.results.size) = some 1 := by kernel_rfl
  rw [h] at this; simpa using this
theorem flat_dec : ∀ s ∈ rDec, s.flat = true := by intro s hs; simp at hs; rcases hs with rfl | rfl <;> rfl

theorem specs4_ok (R : Type) : SpecOK Try.prog (specs4 FDec FDec R) := by
  intro f s hs
  unfold specs4 at hs
  split at hs
  · cases hs; exact constE_ok livesOK
  · cases hs; exact specE_ok fn15 flat_dec count15
  · cases hs; exact specE_ok fn16 flat_dec count16
  · cases hs
theorem call4_ok (R : Type) : CallsOK Try.prog (call4 FDec FDec R) := callsE_ok tt_ok mixed names (specs4_ok R) 20

theorem top4 (l : List Int) (hl : inOK l) (i : Int) : evalF Try.prog tt (call4 FDec FDec) [] 4 sDec [.val .bool] (l, i, ()) = some (true, ()) := by
  refine (e4_eq FDec FDec l i).trans ?_
  obtain ⟨y, hy⟩ := decA_some l i
  rw [FDec_in hl i, hy]
  simp

theorem words_of {l : List Int} (h : ∀ x ∈ l, TyOk tW x) : Words l := fun w hw => bounds_u16 (h w hw)
end Go.Pv
namespace Go.Proofs.Ytidbhhfilhognaa.Decodes
open Go.ChangeShapes Go.WideShapes Go.ChangeAt Go.RowKit Go.Pv

theorem own : ownKnob Try.prog.godebug = none := by kernel_rfl
theorem laidOut : laidOutB Try.prog = true := by kernel_rfl
theorem wordL : tyL Try.prog 6 24 = some tW := by kernel_rfl
theorem wordC : Try.prog.cellsOf 24 = tW.size := by kernel_rfl

theorem read4 : ∀ t ∈ Try.f4.params.toList, Try.prog.readableRec t = true ∧ t < Try.prog.types.size := by
  rw [Try.params4]
  intro t ht
  simp at ht
  rcases ht with rfl | rfl <;> exact ⟨by kernel_rfl, of_decide_eq_true (by kernel_rfl)⟩

set_option maxRecDepth 100000 in
theorem lifted (os : Os) (started : os.Started) (H : Type) (enc : TypeId × Value → H) :
    ReturnsInHanded {} Try.checked os 4 .any (Rows.icodeDecodesSpec.pre6 enc Try.prog Try.f4 Rows.icodeDecodesRow.domain false) (Rows.icodeDecodesSpec.post enc Try.prog Try.f4 false true false false) := by
  refine returnsInHanded_of_change (C := Try.checked) own started (by kernel_rfl) Try.func4
    (ChangeSpec.witness6 (enc := enc) (C := Try.checked) false ⟨#[], #[.slice none 0 0, .int .i64 0], []⟩ 8 (by kernel_rfl) (by kernel_rfl) (by kernel_rfl) (by kernel_rfl)) ?_
  intro W base args ds gs before hval0 hW hcnd _
  have hval : ∀ (j : Nat) t v, Try.f4.params[j]? = some t → args[j]? = some v → Value.okWide Try.prog W .any base t v := hval0
  have hW' := hW
  obtain ⟨p, q, hA0, hV, rfl, hfz, hnd⟩ := hW
  have hA : DataW.TrodAll enc Try.prog W 0 (fun _ => true) true Try.f4.params.toList args.toList ds p := hA0
  have hA1 := hA
  rw [Try.params4] at hA hval
  obtain ⟨v0, vs0, d0, ds0, p0, q0, hargs, rfl, rfl, h0, r0⟩ := trodAll_cons hA
  obtain ⟨v1, vs1, d1, ds1, p1, q1, rfl, rfl, rfl, h1, r1⟩ := trodAll_cons r0
  obtain ⟨rfl, rfl, rfl⟩ := trodAll_nil r1
  obtain rfl : args = #[v0, v1] := by cases args; simp_all
  obtain ⟨rfl, rfl⟩ := trodVars_none hV
  have hlt : ∀ x ∈ p0 ++ (p1 ++ []), x.block < W.heap.size := fun x hx => by simpa using hW'.lt x (by simpa using hx)
  obtain ⟨l, hx, hlen, hrv⟩ := slice_RV Try.underlying32 wordL wordC (hval 0 32 v0 rfl rfl) h0 (β := fun _ => none) (M := fun _ => .none)
  obtain ⟨i, _, hri⟩ := int_RV Try.underlying3 (hval 1 3 v1 rfl rfl) h1 (β := fun _ => none) (M := fun _ => .none) (Z := fun cb => cb < W.heap.size) (h := W.heap)
  have hcalls := calls_true tt_ok mixed names call4_ok (top4 l ⟨words_of hx, hlen⟩ i) count4 (β := fun _ => none) (Z := fun cb => cb < W.heap.size) (w := W) (cargs := [v0, v1]) (fun _ h => h) (RL.cons hrv (RL.cons hri RL.nil))
  refine hcalls.mono fun e W' ⟨he, hg, hh⟩ => ?_
  subst he
  exact ⟨_, rfl, post_of_same (pa := p0 ++ (p1 ++ [])) (pv := []) hW' (fun _ _ _ => (trodAll_cons_mk (shut_bool Try.underlying4 _) trodAll_mk0)) (fun sp hsp => trodAll_stays laidOut hh read4 hA1 hlt (fun y hy => hsp y (by simpa using hy))) (fun _ _ => rfl) rfl
    (hg.frame _) hg.2.1 (ok_one (by kernel_rfl) rfl (okWide_bool_mk Try.underlying4 _))⟩

theorem over : Rows.icodeDecodesRow.holds Try.pinned (OpenSpec.ofChange Rows.icodeDecodesSpec) :=
  OpenClaim.holds_of_wide 4 Try.f4 rfl rfl rfl rfl rfl rfl rfl ⟨rfl, rfl, rfl, rfl, rfl⟩ rfl rfl rfl rfl rfl (by kernel_rfl) Try.func4 (by kernel_rfl)
    (of_decide_eq_true (by kernel_rfl)) (by unfold Func.isWrapper; first | (rw [if_pos (by decide +kernel)]; kernel_rfl) | (rw [if_neg (by decide +kernel)]; exact ⟨rfl, rfl⟩))
    (fun os started H enc _ => lifted os started H enc)
end Go.Proofs.Ytidbhhfilhognaa.Decodes
namespace Go.Proofs.Ytidbhhfilhognaa

theorem icodeDecodes : Rows.IcodeDecodesSaid :=
  Decodes.over
#print axioms icodeDecodes
end Go.Proofs.Ytidbhhfilhognaa
