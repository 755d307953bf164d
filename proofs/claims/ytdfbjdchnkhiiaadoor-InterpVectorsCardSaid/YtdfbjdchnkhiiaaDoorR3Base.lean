/-
  The program's calls, first part: the table of operations, that the program is alive, types of data.
-/
import Derived.Test.YtdfbjdchnkhiiaaDoorPvSpec2
import Derived.Test.YtdfbjdchnkhiiaaDoorR3TT
import Derived.KernelRfl
namespace Go.Pv
open Go.Proofs
set_option maxRecDepth 1000000

def rowsLit : V := .agg [.str ⟨#[]⟩, .int .u8 0, .int .u8 0, .int .u8 0, .int .u8 0, .int .u8 0, .str ⟨#[76, 79, 65, 68]⟩, .int .u8 1, .int .u8 0, .int .u8 0, .int .u8 0, .int .u8 1, .str ⟨#[86, 76, 79, 65, 68]⟩, .int .u8 1, .int .u8 0, .int .u8 0, .int .u8 0, .int .u8 2, .str ⟨#[83, 84, 79, 82, 69]⟩, .int .u8 1, .int .u8 1, .int .u8 0, .int .u8 0, .int .u8 0, .str ⟨#[86, 83, 84, 79, 82, 69]⟩, .int .u8 1, .int .u8 2, .int .u8 0, .int .u8 0, .int .u8 0, .str ⟨#[76, 73, 84]⟩, .int .u8 6, .int .u8 0, .int .u8 0, .int .u8 0, .int .u8 1, .str ⟨#[86, 76, 73, 84]⟩, .int .u8 7, .int .u8 0, .int .u8 0, .int .u8 0, .int .u8 2, .str ⟨#[80, 85, 83, 72]⟩, .int .u8 0, .int .u8 0, .int .u8 0, .int .u8 0, .int .u8 0, .str ⟨#[80, 79, 80]⟩, .int .u8 0, .int .u8 0, .int .u8 1, .int .u8 0, .int .u8 1, .str ⟨#[86, 80, 79, 80]⟩, .int .u8 0, .int .u8 0, .int .u8 2, .int .u8 0, .int .u8 2, .str ⟨#[65, 68, 68]⟩, .int .u8 0, .int .u8 1, .int .u8 1, .int .u8 0, .int .u8 1, .str ⟨#[83, 85, 66]⟩, .int .u8 0, .int .u8 1, .int .u8 1, .int .u8 0, .int .u8 1, .str ⟨#[77, 85, 76]⟩, .int .u8 0, .int .u8 1, .int .u8 1, .int .u8 0, .int .u8 1, .str ⟨#[68, 73, 86]⟩, .int .u8 0, .int .u8 1, .int .u8 1, .int .u8 0, .int .u8 1, .str ⟨#[78, 69, 71]⟩, .int .u8 0, .int .u8 1, .int .u8 0, .int .u8 0, .int .u8 1, .str ⟨#[65, 66, 83]⟩, .int .u8 0, .int .u8 1, .int .u8 0, .int .u8 0, .int .u8 1, .str ⟨#[83, 81, 82, 84]⟩, .int .u8 0, .int .u8 1, .int .u8 0, .int .u8 0, .int .u8 1, .str ⟨#[83, 73, 78]⟩, .int .u8 0, .int .u8 1, .int .u8 0, .int .u8 0, .int .u8 1, .str ⟨#[67, 79, 83]⟩, .int .u8 0, .int .u8 1, .int .u8 0, .int .u8 0, .int .u8 1, .str ⟨#[83, 72, 73, 70, 84]⟩, .int .u8 2, .int .u8 1, .int .u8 0, .int .u8 0, .int .u8 1, .str ⟨#[86, 65, 68, 68]⟩, .int .u8 0, .int .u8 2, .int .u8 2, .int .u8 0, .int .u8 2, .str ⟨#[86, 83, 85, 66]⟩, .int .u8 0, .int .u8 2, .int .u8 2, .int .u8 0, .int .u8 2, .str ⟨#[86, 78, 69, 71]⟩, .int .u8 0, .int .u8 2, .int .u8 0, .int .u8 0, .int .u8 2, .str ⟨#[68, 79, 84]⟩, .int .u8 0, .int .u8 2, .int .u8 2, .int .u8 0, .int .u8 1, .str ⟨#[67, 82, 79, 83, 83]⟩, .int .u8 0, .int .u8 2, .int .u8 2, .int .u8 0, .int .u8 2, .str ⟨#[83, 67, 65, 76, 69]⟩, .int .u8 0, .int .u8 1, .int .u8 2, .int .u8 0, .int .u8 2, .str ⟨#[86, 83, 72, 73, 70, 84]⟩, .int .u8 2, .int .u8 2, .int .u8 0, .int .u8 0, .int .u8 2, .str ⟨#[76, 69, 78, 71, 84, 72]⟩, .int .u8 0, .int .u8 2, .int .u8 0, .int .u8 0, .int .u8 1, .str ⟨#[85, 78, 73, 84]⟩, .int .u8 0, .int .u8 2, .int .u8 0, .int .u8 0, .int .u8 2, .str ⟨#[67, 79, 77, 80]⟩, .int .u8 3, .int .u8 2, .int .u8 0, .int .u8 0, .int .u8 1, .str ⟨#[66, 85, 73, 76, 68]⟩, .int .u8 0, .int .u8 1, .int .u8 1, .int .u8 1, .int .u8 2, .str ⟨#[77, 88, 86]⟩, .int .u8 1, .int .u8 2, .int .u8 0, .int .u8 0, .int .u8 2, .str ⟨#[86, 88, 77]⟩, .int .u8 1, .int .u8 2, .int .u8 0, .int .u8 0, .int .u8 2, .str ⟨#[68, 73, 83, 80, 76, 65, 89]⟩, .int .u8 4, .int .u8 1, .int .u8 0, .int .u8 0, .int .u8 0, .str ⟨#[69, 78, 71, 73, 78, 69]⟩, .int .u8 4, .int .u8 1, .int .u8 0, .int .u8 0, .int .u8 0, .str ⟨#[84, 79, 82, 81, 85, 69]⟩, .int .u8 4, .int .u8 1, .int .u8 0, .int .u8 0, .int .u8 0, .str ⟨#[80, 72, 65, 83, 69]⟩, .int .u8 4, .int .u8 0, .int .u8 0, .int .u8 0, .int .u8 0, .str ⟨#[80, 72, 65, 83, 69, 73, 70]⟩, .int .u8 5, .int .u8 1, .int .u8 0, .int .u8 0, .int .u8 0, .str ⟨#[69, 78, 68]⟩, .int .u8 0, .int .u8 0, .int .u8 0, .int .u8 0, .int .u8 0]

@[reducible] def tW : Ty := .int .u16
@[reducible] def tI : Ty := .int .i64
@[reducible] def tInstr : Ty := .pair (.int .u8) (.pair tI (.pair tI (.pair (.pair tW tW) (.pair (.pair tW tW) (.pair tW tW)))))

theorem mixed : Tryd.prog.follows .mixedOrders = true := by kernel_rfl

theorem names_all : Tryd.prog.funcs.toList.all (fun fn => !(fn.name == "runtime.NumGoroutine")) = true := by kernel_rfl

theorem names (f : FuncId) (fn : Func) (h : Tryd.prog.funcs[f]? = some fn) : (fn.name == "runtime.NumGoroutine") = false := by
  have := List.all_eq_true.1 names_all fn (by simpa using Array.mem_of_getElem? h)
  simpa using this

theorem constOK {f : FuncId} {M : Mem} {spec : FuncId → Option (List V → Mem → Nat → (Eff → Option Eff) → Option Eff)} (hs : SpecOK Tryd.prog spec) {v : V}
    (h : callsE Tryd.prog tt spec 20 f [] M 0 (fun e => some e) = some { val := v }) : CallOK Tryd.prog f [] M { val := v } := by
  obtain ⟨eff, h1, h2⟩ := callsE_ok tt_ok mixed names hs 20 f [] M 0 _ _ h
  cases h2
  exact h1

theorem noSpec {R : Type} : SpecOK Tryd.prog (R := R) (fun _ => none) := fun _ _ h => by cases h

/-- a constant -/
def constE {R : Type} (v : V) : List V → Mem → Nat → (Eff → Option R) → Option R := fun args _ _ c => match args with
  | [] => c { val := v }
  | _ => none

theorem constE_ok {R : Type} {f : FuncId} {v : V} (h : ∀ M, CallOK Tryd.prog f [] M { val := v }) : ∀ args M id (c : Eff → Option R) r, constE v args M id c = some r → ∃ eff, CallOK Tryd.prog f args M eff ∧ c eff = some r := by
  intro args M id c r hr
  cases args with
  | nil => exact ⟨_, h M, hr⟩
  | cons _ _ => cases hr

theorem rowsOK (M : Mem) : CallOK Tryd.prog 75 [] M { val := rowsLit } := constOK noSpec (by kernel_rfl)

def specs0 (R : Type) (f : FuncId) : Option (List V → Mem → Nat → (Eff → Option R) → Option R) :=
  match f with
  | 75 => some (constE rowsLit)
  | _ => none

theorem specs0_ok (R : Type) : SpecOK Tryd.prog (specs0 R) := by
  intro f s hs
  unfold specs0 at hs
  split at hs
  · cases hs; exact constE_ok rowsOK
  · cases hs

noncomputable def call0 (R : Type) : CallE R := callsE Tryd.prog tt (specs0 R) 20
theorem call0_ok (R : Type) : CallsOK Tryd.prog (call0 R) := callsE_ok tt_ok mixed names (specs0_ok R) 20

/-- a function of the program by itself -/
theorem fnOK {callE : (R : Type) → CallE R} (hcall : ∀ R, CallsOK Tryd.prog (callE R)) {lss : List LoopSpec} {f : FuncId} {sa sr : Sig} {F : sa.den → Option (Shape.den (resShape 0 sr))}
    (h : ∀ x y, F x = some y → evalF Tryd.prog tt callE lss f sa sr x = some y) : FnOK Tryd.prog f sa sr F := fun x y hF => evalF_ok tt_ok mixed names hcall (h x y hF)

/-! ### Whether an operation is known: outside the known ones -/
noncomputable abbrev e20 (x : Int × Unit) := evalF Tryd.prog tt call0 [] 55 [.val (.int .u8)] [.val .bool] x
noncomputable abbrev e19 (x : Int × Unit) := evalF Tryd.prog tt call0 [] 72 [.val (.int .u8)] [.val .bool] x
def outK (k : Int) : Bool := (decide (39 ≤ k) && decide (k ≤ 255)) || decide (k = 0)
def D20u (x : Sig.den [.val (.int .u8)]) : Bool := outK x.1
def F20u (_ : Sig.den [.val (.int .u8)]) : Shape.den (resShape 0 [.val .bool]) := (false, ())

theorem e20_eq (k : Int) : e20 (k, ()) = bif decide (k > 0) then some (decide (IntKind.i64.wrap k < 39), ()) else some (false, ()) := by kernel_rfl
theorem e19_eq (k : Int) : e19 (k, ()) = bif decide (k ≥ 1) then some (decide (k ≤ 38), ()) else some (false, ()) := by kernel_rfl

theorem wrap_small {k : Int} (h1 : 0 ≤ k) (h2 : k ≤ 255) : IntKind.i64.wrap k = k := by
  unfold IntKind.wrap IntKind.bits IntKind.signed
  simp only [Bool.true_and]
  have e : (2 : Int) ^ 64 = 18446744073709551616 := by decide
  have e2 : (2 : Int) ^ (64 - 1) = 9223372036854775808 := by decide
  rw [e, e2]
  have : ¬ (k % 18446744073709551616 ≥ 9223372036854775808) := by omega
  simp only [decide_eq_true_eq, this, if_false]
  omega

theorem outK_cases {k : Int} (h : outK k = true) : (39 ≤ k ∧ k ≤ 255) ∨ k = 0 := by
  simpa only [outK, Bool.or_eq_true, Bool.and_eq_true, decide_eq_true_eq] using h

theorem e20_out {k : Int} (h : outK k = true) : e20 (k, ()) = some (false, ()) := by
  rw [e20_eq]
  rcases outK_cases h with ho | ho
  · have h1 : decide (k > 0) = true := decide_eq_true (by omega)
    have h2 : decide (k < 39) = false := decide_eq_false (by omega)
    rw [h1, cond_true, wrap_small (by omega) ho.2, h2]
  · subst ho; rfl

theorem e19_out {k : Int} (h : outK k = true) : e19 (k, ()) = some (false, ()) := by
  rw [e19_eq]
  rcases outK_cases h with ho | ho
  · have h1 : decide (k ≥ 1) = true := decide_eq_true (by omega)
    have h2 : decide (k ≤ 38) = false := decide_eq_false (by omega)
    rw [h1, cond_true, h2]
  · subst ho; rfl

theorem known_out : FnOK Tryd.prog 55 [.val (.int .u8)] [.val .bool] fun x => bif D20u x then some (F20u x) else none := by
  refine fnOK (lss := []) call0_ok fun x y hF => ?_
  obtain ⟨k, ⟨⟩⟩ := x
  change (bif outK k then some (false, ()) else none) = some y at hF
  cases ho : outK k with
  | false => rw [ho] at hF; cases hF
  | true => rw [ho] at hF; exact (e20_out ho).trans hF

theorem known_out_ref : FnOK Tryd.prog 72 [.val (.int .u8)] [.val .bool] fun x => bif D20u x then some (F20u x) else none := by
  refine fnOK (lss := []) call0_ok fun x y hF => ?_
  obtain ⟨k, ⟨⟩⟩ := x
  change (bif outK k then some (false, ()) else none) = some y at hF
  cases ho : outK k with
  | false => rw [ho] at hF; cases hF
  | true => rw [ho] at hF; exact (e19_out ho).trans hF

def specsU (R : Type) (f : FuncId) : Option (List V → Mem → Nat → (Eff → Option R) → Option R) :=
  match f with
  | 55 => some (specD [.val (.int .u8)] [.val .bool] D20u F20u)
  | 72 => some (specD [.val (.int .u8)] [.val .bool] D20u F20u)
  | _ => none

theorem flat_bool : ∀ s ∈ ([.val .bool] : Sig), s.flat = true := by intro s hs; simp at hs; subst hs; rfl

theorem count20 (fn : Func) (h : Tryd.prog.funcs[55]? = some fn) : fn.results.size = 1 := by
  have : (Tryd.prog.funcs[55]?).map (fun fn => fn.results.size) = some 1 := by kernel_rfl
  rw [h] at this; simpa using this
theorem count19 (fn : Func) (h : Tryd.prog.funcs[72]? = some fn) : fn.results.size = 1 := by
  have : (Tryd.prog.funcs[72]?).map (fun fn => fn.results.size) = some 1 := by kernel_rfl
  rw [h] at this; simpa using this

theorem specsU_ok (R : Type) : SpecOK Tryd.prog (specsU R) := by
  intro f s hs
  unfold specsU at hs
  split at hs
  · cases hs; exact specD_ok known_out flat_bool count20
  · cases hs; exact specD_ok known_out_ref flat_bool count19
  · cases hs

noncomputable def callU (R : Type) : CallE R := callsE Tryd.prog tt (specsU R) 20
theorem callU_ok (R : Type) : CallsOK Tryd.prog (callU R) := callsE_ok tt_ok mixed names (specsU_ok R) 20
end Go.Pv
