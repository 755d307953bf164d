/-
  The law IcodeEncodes, run with what is known of its callees.
-/
import Derived.Test.YtidbhhfilhognaaR1EncLaw
import Derived.Test.YtidbhhfilhognaaR1Same
namespace Go.Pv
open Go.Proofs
set_option maxRecDepth 1000000
abbrev GEnc := Sig.den [.agg tInstr] → Option (Shape.den (resShape 0 [.row tW, .val tI]))
abbrev GSame := Sig.den [.val (.slice tW), .val (.slice tW)] → Option (Shape.den (resShape 0 [.val .bool]))

def specs3 (G12 G13 : GEnc) (G14 : GSame) (R : Type) (f : FuncId) : Option (List V → Mem → Nat → (Eff → Option R) → Option R) :=
  match f with
  | 11 => some (constE (.bool true))
  | 12 => some (specE [.agg tInstr] [.row tW, .val tI] G12)
  | 13 => some (specE [.agg tInstr] [.row tW, .val tI] G13)
  | 14 => some (specE [.val (.slice tW), .val (.slice tW)] [.val .bool] G14)
  | _ => none
noncomputable def call3 (G12 G13 : GEnc) (G14 : GSame) (R : Type) : CallE R := callsE Try.prog tt (specs3 G12 G13 G14 R) 20
noncomputable abbrev e3 (G12 G13 : GEnc) (G14 : GSame) (x : tInstr.den) : Option (Bool × Unit) := evalF Try.prog tt (call3 G12 G13 G14) [] 3 [.agg tInstr] [.val .bool] (x, ())

theorem e3_eq (G12 G13 : GEnc) (G14 : GSame) (x : tInstr.den) : e3 G12 G13 G14 x = match G12 (x, ()) with
    | none => none
    | some y => match G13 (x, ()) with
      | none => none
      | some z => bif y.2.1 == z.2.1 then (match G14 (y.1, z.1, ()) with
        | none => none
        | some b => some (b.1, ())) else some (false, ()) := by kernel_rfl

theorem count12 (fn : Func) (h : Try.prog.funcs[12]? = some fn) : fn.results.size = 2 := by
  have : (Try.prog.funcs[12]?).map (fun fn => fn.results.size) = some 2 := by kernel_rfl
  rw [h] at this; simpa using this
theorem count13 (fn : Func) (h : Try.prog.funcs[13]? = some fn) : fn.results.size = 2 := by
  have : (Try.prog.funcs[13]?).map (fun fn => fn.results.size) = some 2 := by kernel_rfl
  rw [h] at this; simpa using this
theorem count14 (fn : Func) (h : Try.prog.funcs[14]? = some fn) : fn.results.size = 1 := by
  have : (Try.prog.funcs[14]?).map (fun fn => fn.results.size) = some 1 := by kernel_rfl
  rw [h] at this; simpa using this
theorem count3 (fn : Func) (h : Try.prog.funcs[3]? = some fn) : fn.results.size = 1 := by
  have : (Try.prog.funcs[3]?).map (fun fn => fn.results.size) = some 1 := by kernel_rfl
  rw [h] at this; simpa using this
theorem flat_enc : ∀ s ∈ ([.row tW, .val tI] : Sig), s.flat = true := by intro s hs; simp at hs; rcases hs with rfl | rfl <;> rfl

theorem specs3_ok (R : Type) : SpecOK Try.prog (specs3 F12 F13 e14 R) := by
  intro f s hs
  unfold specs3 at hs
  split at hs
  · cases hs; exact constE_ok livesOK
  · cases hs; exact specE_ok fn12 flat_enc count12
  · cases hs; exact specE_ok fn13 flat_enc count13
  · cases hs; exact specE_ok fn14 flat_bool count14
  · cases hs

theorem call3_ok (R : Type) : CallsOK Try.prog (call3 F12 F13 e14 R) := callsE_ok tt_ok mixed names (specs3_ok R) 20

theorem top3 (x : tInstr.den) (h0 : 0 ≤ x.1) (h1 : x.1 ≤ 255) : evalF Try.prog tt (call3 F12 F13 e14) [] 3 [.agg tInstr] [.val .bool] (x, ()) = some (true, ()) := by
  obtain ⟨y, h2, h3, h4⟩ := enc_alike x h0 h1
  refine (e3_eq F12 F13 e14 x).trans ?_
  rw [h2, h3]
  have := same_self y.1 (by omega)
  simp only [beq_self_eq_true, cond_true]
  rw [this]
end Go.Pv
