/-
  What is known of layer 18 in this seat: Decode on words at hand, Form.
-/
import Derived.Test.YtdfbjdchnkhiiaaDoorR3DecFn
import Derived.Test.YtdfbjdchnkhiiaaDoorPvSpecT
namespace Go.Pv
open Go.Proofs
set_option maxRecDepth 1000000
@[reducible] def tForm : Ty := .pair (.int .u8) (.pair (.int .u8) (.pair (.int .u8) (.pair (.int .u8) .bool)))
def insL : List Int := [0, 0, 0, 1, 2, 0, 0, 0, 0, 0, 1, 1, 1, 1, 1, 1, 1, 1, 1, 1, 2, 2, 2, 2, 2, 1, 2, 2, 2, 2, 1, 2, 2, 1, 1, 1, 0, 1, 0]
def pop1L : List Int := [0, 0, 0, 0, 0, 0, 0, 0, 1, 2, 1, 1, 1, 1, 0, 0, 0, 0, 0, 0, 2, 2, 0, 2, 2, 2, 0, 0, 0, 0, 1, 0, 0, 0, 0, 0, 0, 0, 0]
def pop2L : List Int := [0, 0, 0, 0, 0, 0, 0, 0, 0, 0, 0, 0, 0, 0, 0, 0, 0, 0, 0, 0, 0, 0, 0, 0, 0, 0, 0, 0, 0, 0, 1, 0, 0, 0, 0, 0, 0, 0, 0]
def outsL : List Int := [0, 1, 2, 0, 0, 1, 2, 0, 1, 2, 1, 1, 1, 1, 1, 1, 1, 1, 1, 1, 2, 2, 2, 1, 2, 2, 2, 1, 2, 1, 2, 2, 2, 0, 0, 0, 0, 0, 0]
def formOf (k : Int) : tForm.den := (insL.getD k.toNat 0, pop1L.getD k.toNat 0, pop2L.getD k.toNat 0, outsL.getD k.toNat 0, k == 7)
def kn (k : Int) : Bool := decide (1 ≤ k) && decide (k ≤ 38)
theorem kn_iff {k : Int} : kn k = true ↔ 1 ≤ k ∧ k ≤ 38 := by simp [kn]
noncomputable abbrev k18 (k : Int) := evalF Tryd.prog tt call0 [] 18 sOp [.agg tForm] (k, ())
def isForm (o : Option (tForm.den × Unit)) (f : tForm.den) : Bool := match o with
  | some y => decide (y.1.1 = f.1) && (decide (y.1.2.1 = f.2.1) && (decide (y.1.2.2.1 = f.2.2.1) && (decide (y.1.2.2.2.1 = f.2.2.2.1) && decide (y.1.2.2.2.2 = f.2.2.2.2))))
  | none => false
theorem isForm_eq {o : Option (tForm.den × Unit)} {f : tForm.den} (h : isForm o f = true) : o = some (f, ()) := by
  cases o with
  | none => cases h
  | some y =>
    obtain ⟨⟨y1, y2, y3, y4, y5⟩, ⟨⟩⟩ := y
    obtain ⟨f1, f2, f3, f4, f5⟩ := f
    simp only [isForm, Bool.and_eq_true, decide_eq_true_eq] at h
    obtain ⟨rfl, rfl, rfl, rfl, rfl⟩ := h
    rfl
theorem t18 : each38 (fun k => isForm (k18 k) (formOf k)) = true := by kernel_rfl

theorem fn18 : FnOK Tryd.prog 18 sOp [.agg tForm] fun x => bif kn x.1 then some (formOf x.1, ()) else none := fnOK (lss := []) call0_ok fun x y h => by
  obtain ⟨k, ⟨⟩⟩ := x
  change (bif kn k then some (formOf k, ()) else none) = some y at h
  cases ho : kn k with
  | false => rw [ho] at h; cases h
  | true =>
    rw [ho] at h
    have := isForm_eq (each38_at t18 (kn_iff.1 ho).1 (kn_iff.1 ho).2)
    exact this.trans h
theorem flat_form : ∀ s ∈ ([.agg tForm] : Sig), s.flat = true := by intro s hs; simp at hs; subst hs; rfl
theorem flatDec : ∀ s ∈ rDec, s.flat = true := by intro s hs; simp at hs; rcases hs with rfl | rfl <;> rfl
theorem cnt18 (fn : Func) (h : Tryd.prog.funcs[18]? = some fn) : fn.results.size = 1 := by
  have : (Tryd.prog.funcs[18]?).map (fun fn => fn.results.size) = some 1 := by kernel_rfl
  rw [h] at this; simpa using this
theorem cnt33 (fn : Func) (h : Tryd.prog.funcs[33]? = some fn) : fn.results.size = 3 := by
  have : (Tryd.prog.funcs[33]?).map (fun fn => fn.results.size) = some 3 := by kernel_rfl
  rw [h] at this; simpa using this

/-- Decode, of words that are at hand -/
def inOKb (l : List Int) : Bool := (l.all fun w => decide (0 ≤ w) && decide (w ≤ 65535)) && Nat.ble l.length 100000
theorem inOKb_ok {l : List Int} (h : inOKb l = true) : inOK l := by
  simp only [inOKb, Bool.and_eq_true, List.all_eq_true, decide_eq_true_eq] at h
  have := Nat.le_of_ble_eq_true h.2
  exact ⟨fun w hw => h.1 w hw, by unfold big; omega⟩
def FDecC (x : Sig.den sDec) : Option (Shape.den (resShape 0 rDec)) := bif inOKb x.1 then decA x.1 x.2.1 else none
theorem fn33C : FnOK Tryd.prog 33 sDec rDec FDecC := fun x y h => by
  obtain ⟨l, i, ⟨⟩⟩ := x
  change (bif inOKb l then decA l i else none) = some y at h
  cases hb : inOKb l with
  | false => rw [hb] at h; cases h
  | true =>
    rw [hb] at h
    exact fn15 (l, i, ()) y ((FDec_in (inOKb_ok hb) i).trans h)
def specsC (R : Type) (f : FuncId) : Option (List V → Mem → Nat → (Eff → Option R) → Option R) :=
  match f with
  | 33 => some (specE sDec rDec FDecC)
  | 18 => some (specD sOp [.agg tForm] (fun x => kn x.1) fun x => (formOf x.1, ()))
  | _ => none
theorem specsC_ok (R : Type) : SpecOK Tryd.prog (specsC R) := by
  intro f s hs
  unfold specsC at hs
  split at hs
  · cases hs; exact specE_ok fn33C flatDec cnt33
  · cases hs; exact specD_ok fn18 flat_form cnt18
  · cases hs
noncomputable def callC (R : Type) : CallE R := callsE Tryd.prog tt (specsC R) 30
theorem callC_ok (R : Type) : CallsOK Tryd.prog (callC R) := callsE_ok tt_ok mixed names (specsC_ok R) 30
end Go.Pv
