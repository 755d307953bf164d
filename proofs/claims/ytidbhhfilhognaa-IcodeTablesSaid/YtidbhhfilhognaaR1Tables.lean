/-
  The law IcodeTables: what the tables say, of every operation and every name.
-/
import Derived.Test.YtidbhhfilhognaaR1Tab
import Derived.WideShapes
namespace Go.Pv
open Go.Proofs
set_option maxRecDepth 1000000
def NL : List ByteArray := [⟨#[76, 79, 65, 68]⟩, ⟨#[86, 76, 79, 65, 68]⟩, ⟨#[83, 84, 79, 82, 69]⟩, ⟨#[86, 83, 84, 79, 82, 69]⟩, ⟨#[76, 73, 84]⟩, ⟨#[86, 76, 73, 84]⟩, ⟨#[80, 85, 83, 72]⟩, ⟨#[80, 79, 80]⟩, ⟨#[86, 80, 79, 80]⟩, ⟨#[65, 68, 68]⟩, ⟨#[83, 85, 66]⟩, ⟨#[77, 85, 76]⟩, ⟨#[68, 73, 86]⟩, ⟨#[78, 69, 71]⟩, ⟨#[65, 66, 83]⟩, ⟨#[83, 81, 82, 84]⟩, ⟨#[83, 73, 78]⟩, ⟨#[67, 79, 83]⟩, ⟨#[83, 72, 73, 70, 84]⟩, ⟨#[86, 65, 68, 68]⟩, ⟨#[86, 83, 85, 66]⟩, ⟨#[86, 78, 69, 71]⟩, ⟨#[68, 79, 84]⟩, ⟨#[67, 82, 79, 83, 83]⟩, ⟨#[83, 67, 65, 76, 69]⟩, ⟨#[86, 83, 72, 73, 70, 84]⟩, ⟨#[76, 69, 78, 71, 84, 72]⟩, ⟨#[85, 78, 73, 84]⟩, ⟨#[67, 79, 77, 80]⟩, ⟨#[66, 85, 73, 76, 68]⟩, ⟨#[77, 88, 86]⟩, ⟨#[86, 88, 77]⟩, ⟨#[68, 73, 83, 80, 76, 65, 89]⟩, ⟨#[69, 78, 71, 73, 78, 69]⟩, ⟨#[84, 79, 82, 81, 85, 69]⟩, ⟨#[80, 72, 65, 83, 69]⟩, ⟨#[80, 72, 65, 83, 69, 73, 70]⟩, ⟨#[69, 78, 68]⟩]
noncomputable abbrev k18 := evalF Try.prog tt call0 [] 18 [] [.row .str] ()
noncomputable abbrev k19 (k : Int) := evalF Try.prog tt call0 [] 19 sOp [.val .bool] (k, ())
noncomputable abbrev k21 (k : Int) := evalF Try.prog tt call0 [] 21 sOp [.val .str] (k, ())
noncomputable abbrev k25 (k : Int) := evalF Try.prog tt call0 [] 25 sOp [.agg tForm] (k, ())
noncomputable abbrev k26 (k : Int) := evalF Try.prog tt call0 [] 26 sOp [.agg tForm] (k, ())
noncomputable abbrev k27 (s : ByteArray) := evalF Try.prog tt call0 [] 27 [.val .str] [.val (.int .u8), .val .bool] (s, ())
def kn (k : Int) : Bool := decide (1 ≤ k) && decide (k ≤ 38)
def nm (k : Int) : ByteArray := bif kn k then NL.getD (k - 1).toNat ⟨#[]⟩ else ⟨#[]⟩
def ln (k : Int) : Int := bif kn k then lenOfK (kindOf k) else 0
def kd (k : Int) : Int := bif kn k then (kindOf k : Nat) else 0
def vF (o : Option (tForm.den × Unit)) : tForm.den := match o with
  | some y => y.1
  | none => (0, 0, 0, 0, false)
noncomputable def fm (k : Int) : tForm.den := bif kn k then vF (k25 k) else (0, 0, 0, 0, false)
def isS (o : Option (ByteArray × Unit)) (b : ByteArray) : Bool := match o with
  | some y => decide (y.1.data.toList = b.data.toList)
  | none => false
def sameF (a b : Option (tForm.den × Unit)) : Bool := match a, b with
  | some y, some z => decide (y.1.1 = z.1.1) && (decide (y.1.2.1 = z.1.2.1) && (decide (y.1.2.2.1 = z.1.2.2.1) && (decide (y.1.2.2.2.1 = z.1.2.2.2.1) && decide (y.1.2.2.2.2 = z.1.2.2.2.2))))
  | _, _ => false
theorem isS_eq {o : Option (ByteArray × Unit)} {b : ByteArray} (h : isS o b = true) : o = some (b, ()) := by
  cases o with
  | none => cases h
  | some y =>
    obtain ⟨y, ⟨⟩⟩ := y
    have e : y = b := Go.WideShapes.bytes_inj (of_decide_eq_true h)
    rw [e]
theorem sameF_eq {a b : Option (tForm.den × Unit)} (h : sameF a b = true) : a = some (vF a, ()) ∧ b = some (vF a, ()) := by
  cases a with
  | none => cases h
  | some y => cases b with
    | none => cases h
    | some z =>
      obtain ⟨⟨y1, y2, y3, y4, y5⟩, ⟨⟩⟩ := y
      obtain ⟨⟨z1, z2, z3, z4, z5⟩, ⟨⟩⟩ := z
      simp only [sameF, Bool.and_eq_true, decide_eq_true_eq] at h
      obtain ⟨rfl, rfl, rfl, rfl, rfl⟩ := h
      exact ⟨rfl, rfl⟩
theorem u18 : k18 = some (NL, ()) := by kernel_rfl
theorem u19 : each38 (fun k => isB (k19 k) true) = true := by kernel_rfl
theorem u21 : each38 (fun k => isS (k21 k) (nm k)) = true := by kernel_rfl
theorem u25 : each38 (fun k => sameF (k25 k) (k26 k)) = true := by kernel_rfl
def bn : List ByteArray → Int → ByteArray → Option (Int × Bool × Unit)
  | [], _, _ => some (0, false, ())
  | n :: r, i, s => bif n.toList == s.toList then some (i, true, ()) else bn r (i + 1) s
theorem u27 (s : ByteArray) : k27 s = bn NL 1 s := by kernel_rfl

/-! ### Operations that are not known -/
def ch : List (Int × Int) → Int → Option (Int × Unit)
  | [], _ => some (0, ())
  | c :: r, k => bif k == c.1 then some (c.2, ()) else ch r k
def inL : List (Int × Int) := [(4, 2), (20, 2), (21, 2), (22, 2), (23, 2), (24, 2), (26, 2), (27, 2), (28, 2), (29, 2), (31, 2), (32, 2), (3, 1), (10, 1), (11, 1), (12, 1), (13, 1), (14, 1), (15, 1), (16, 1), (17, 1), (18, 1), (19, 1), (25, 1), (30, 1), (33, 1), (34, 1), (35, 1), (37, 1)]
def outL : List (Int × Int) := [(2, 2), (6, 2), (9, 2), (20, 2), (21, 2), (22, 2), (24, 2), (25, 2), (26, 2), (28, 2), (30, 2), (31, 2), (32, 2), (1, 1), (5, 1), (8, 1), (10, 1), (11, 1), (12, 1), (13, 1), (14, 1), (15, 1), (16, 1), (17, 1), (18, 1), (19, 1), (23, 1), (27, 1), (29, 1)]
def popL : List (Int × Int) := [(9, 2), (20, 2), (21, 2), (23, 2), (24, 2), (25, 2), (8, 1), (10, 1), (11, 1), (12, 1), (13, 1), (30, 1)]
def kinL : List (Int × Int) := [(1, 1), (2, 1), (3, 1), (4, 1), (31, 1), (32, 1), (19, 2), (26, 2), (29, 3), (33, 4), (34, 4), (35, 4), (36, 4), (37, 5), (5, 6), (6, 7)]
theorem v46 (k : Int) : evalF Try.prog tt call0 [] 46 sOp [.val (.int .u8)] (k, ()) = ch inL k := by kernel_rfl
theorem v48 (k : Int) : evalF Try.prog tt call0 [] 48 sOp [.val (.int .u8)] (k, ()) = ch outL k := by kernel_rfl
theorem v47 (k : Int) : evalF Try.prog tt call0 [] 47 sOp [.val (.int .u8)] (k, ()) = ch popL k := by kernel_rfl
theorem v24 (k : Int) : evalF Try.prog tt call0 [] 24 sOp [.val (.int .u8)] (k, ()) = ch kinL k := by kernel_rfl
theorem v21 (k : Int) : evalF Try.prog tt callU [] 21 sOp [.val .str] (k, ()) = bif outK k then some (⟨#[]⟩, ()) else none := by kernel_rfl
theorem v23 (k : Int) : evalF Try.prog tt callU [] 23 sOp [.val (.int .u8)] (k, ()) = bif outK k then some (0, ()) else none := by kernel_rfl
theorem v17 (k : Int) : evalF Try.prog tt callU [] 17 sOp [.val tI] (k, ()) = bif outK k then some (0, ()) else none := by kernel_rfl
theorem v22 (k : Int) : evalF Try.prog tt callU [] 22 sOp [.val tI] (k, ()) = bif outK k then some (0, ()) else none := by kernel_rfl
theorem v25 (k : Int) : evalF Try.prog tt callU [] 25 sOp [.agg tForm] (k, ()) = bif outK k then some ((0, 0, 0, 0, k == 7), ()) else none := by kernel_rfl
def specsV (D : Int → Bool) (R : Type) (f : FuncId) : Option (List V → Mem → Nat → (Eff → Option R) → Option R) :=
  match f with
  | 46 => some (specD sOp [.val (.int .u8)] (fun x => D x.1) fun _ => (0, ()))
  | 47 => some (specD sOp [.val (.int .u8)] (fun x => D x.1) fun _ => (0, ()))
  | 48 => some (specD sOp [.val (.int .u8)] (fun x => D x.1) fun _ => (0, ()))
  | _ => none
noncomputable def callV (D : Int → Bool) (R : Type) : CallE R := callsE Try.prog tt (specsV D R) 20
theorem v26 (D : Int → Bool) (k : Int) : evalF Try.prog tt (callV D) [] 26 sOp [.agg tForm] (k, ()) = bif D k then bif D k then bif D k then
    bif k == 30 then some ((0, 0, 1, 0, k == 7), ()) else some ((0, 0, 0, 0, k == 7), ()) else none else none else none := by kernel_rfl
end Go.Pv
