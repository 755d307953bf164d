/-
  What the statement's reading says of an argument of flat data.
-/
import Derived.Test.YtdfbjdchnkhiiaaDoorPvLaw
import Derived.OpenShut
namespace Go.Pv
open Go.ChangeShapes

/-- a type's data, its layout looked at -/
def fieldsL (f : TypeId → Option Ty) (P : Program) : List Field → Nat → Option (List Ty)
  | [], _ => some []
  | x :: r, off => match f x.type with
    | some τ => bif Nat.beq x.offset off && Nat.beq (P.cellsOf x.type) τ.size then (match fieldsL f P r (off + τ.size) with
      | some τs => some (τ :: τs)
      | none => none) else none
    | none => none

def tyL (P : Program) : Nat → TypeId → Option Ty
  | 0, _ => none
  | n + 1, t => match P.underlying t with
    | some .bool => some .bool
    | some (.int k) => some (.int k)
    | some .string => some .str
    | some (.array len e) => match tyL P n e with
      | some τ => bif Nat.beq (P.cellsOf e) τ.size && Nat.beq (P.cellsOf t) (Ty.arr len τ).size then some (Ty.arr len τ) else none
      | none => none
    | some (.struct fs) => match fieldsL (tyL P n) P fs.toList 0 with
      | some τs => bif Nat.beq (P.cellsOf t) (Ty.tup τs).size then some (Ty.tup τs) else none
      | none => none
    | _ => none

/-- the numbers fit their kinds -/
def TyOk : (τ : Ty) → τ.den → Prop
  | .int k, n => (Lit.int k n).wf = true
  | .pair a b, x => TyOk a x.1 ∧ TyOk b x.2
  | _, _ => True

section
variable {H : Type} {enc : TypeId × Value → H} {P : Program} {w : World} {base : Nat} {spare : Nat → Bool} {held : Bool} {h : Heap} {Z : Nat → Prop}

theorem pair_RD {a b : Ty} {x : a.den} {y : b.den} {cs : List Value} {off : Nat} (h1 : RD h Z a x ((cs.drop off).take a.size)) (h2 : RD h Z b y ((cs.drop (off + a.size)).take b.size)) :
    RD h Z (.pair a b) (x, y) ((cs.drop off).take (a.size + b.size)) := by
  refine ⟨?_, ?_⟩
  · rw [List.take_take, Nat.min_eq_left (by omega)]; exact h1
  · rw [List.drop_take, List.drop_drop]
    have : a.size + b.size - a.size = b.size := by omega
    rw [this]; exact h2

theorem fields_RD {f : TypeId → Option Ty} {g : TypeId → List Value → Option (DataW H × List MemPlace)} {cs : List Value}
    (ih : ∀ t τ cs d, f t = some τ → g t cs = some d → ∃ x : τ.den, RD h Z τ x cs ∧ TyOk τ x) :
    ∀ (fs : List Field) (τs : List Ty) (off : Nat) (xs : List (DataW H × List MemPlace)), fieldsL f P fs off = some τs → (fs.mapM fun x => g x.type ((cs.drop x.offset).take (P.cellsOf x.type))) = some xs →
      ∃ x : (Ty.tup τs).den, RD h Z (Ty.tup τs) x ((cs.drop off).take (Ty.tup τs).size) ∧ TyOk (Ty.tup τs) x
  | [], τs, off, xs, hf, _ => by
    simp only [fieldsL, Option.some.injEq] at hf; subst hf
    exact ⟨(), by simp [Ty.tup, RD, Ty.size], trivial⟩
  | x :: r, τs, off, xs, hf, hm => by
    simp only [fieldsL] at hf
    cases h1 : f x.type with
    | none => rw [h1] at hf; cases hf
    | some τ =>
      rw [h1] at hf
      simp only at hf
      cases hq : Nat.beq x.offset off && Nat.beq (P.cellsOf x.type) τ.size with
      | false => rw [hq] at hf; cases hf
      | true =>
        rw [hq] at hf
        simp only [cond_true] at hf
        simp only [Bool.and_eq_true] at hq
        have q1 := Nat.eq_of_beq_eq_true hq.1
        have q2 := Nat.eq_of_beq_eq_true hq.2
        cases h2 : fieldsL f P r (off + τ.size) with
        | none => rw [h2] at hf; cases hf
        | some τr =>
          rw [h2] at hf
          simp only [Option.some.injEq] at hf
          subst hf
          rw [List.mapM_cons] at hm
          cases h3 : g x.type ((cs.drop x.offset).take (P.cellsOf x.type)) with
          | none => rw [h3] at hm; cases hm
          | some d =>
            rw [h3] at hm
            cases h4 : (r.mapM fun x => g x.type ((cs.drop x.offset).take (P.cellsOf x.type))) with
            | none => simp [h4] at hm
            | some ds =>
              obtain ⟨y, e1, e2⟩ := ih x.type τ _ d h1 h3
              rw [q1, q2] at e1
              obtain ⟨z, e3, e4⟩ := fields_RD ih r τr (off + τ.size) ds h2 h4
              cases τr with
              | nil => exact ⟨y, e1, e2⟩
              | cons a b => exact ⟨(y, z), pair_RD e1 e3, e2, e4⟩

theorem array_RD {τ : Ty} {g : List Value → Option (DataW H × List MemPlace)} {cs : List Value} {sz : Nat} (hsz : sz = τ.size)
    (ih : ∀ cs d, g cs = some d → ∃ x : τ.den, RD h Z τ x cs ∧ TyOk τ x) :
    ∀ (n s : Nat) (xs : List (DataW H × List MemPlace)), ((List.range' s n).mapM fun i => g ((cs.drop (i * sz)).take sz)) = some xs →
      ∃ x : (Ty.arr n τ).den, RD h Z (Ty.arr n τ) x ((cs.drop (s * sz)).take (Ty.arr n τ).size) ∧ TyOk (Ty.arr n τ) x
  | 0, s, xs, _ => ⟨(), by simp [Ty.arr, Ty.tup, RD, Ty.size], trivial⟩
  | n + 1, s, xs, hm => by
    rw [List.range'_succ, List.mapM_cons] at hm
    cases h3 : g ((cs.drop (s * sz)).take sz) with
    | none => rw [h3] at hm; cases hm
    | some d =>
      rw [h3] at hm
      cases h4 : ((List.range' (s + 1) n).mapM fun i => g ((cs.drop (i * sz)).take sz)) with
      | none => simp [h4] at hm
      | some ds =>
        obtain ⟨y, e1, e2⟩ := ih _ d h3
        obtain ⟨z, e3, e4⟩ := array_RD hsz ih n (s + 1) ds h4
        subst hsz
        cases n with
        | zero => exact ⟨y, e1, e2⟩
        | succ n =>
          refine ⟨(y, z), ?_, e2, e4⟩
          have : (s + 1) * τ.size = s * τ.size + τ.size := by rw [Nat.add_mul, Nat.one_mul]
          rw [this] at e3
          exact pair_RD e1 e3

/-- flat data read -/
theorem trod_RD : ∀ (n fuel : Nat) (t : TypeId) (τ : Ty) (cs : List Value) (d : DataW H × List MemPlace), tyL P n t = some τ → DataW.trod enc P w base spare held fuel t cs = some d →
    ∃ x : τ.den, RD h Z τ x cs ∧ TyOk τ x
  | 0, _, _, _, _, _, ht, _ => by cases ht
  | n + 1, 0, _, _, _, _, _, hd => by simp [DataW.trod] at hd
  | n + 1, fuel + 1, t, τ, cs, d, ht, hd => by
    simp only [tyL] at ht
    cases hu : P.underlying t with
    | none => rw [hu] at ht; cases ht
    | some u =>
      rw [hu] at ht
      cases u with
      | bool =>
        cases ht
        obtain ⟨b, rfl, _⟩ := DataW.trod_bool hu hd
        exact ⟨b, rfl, trivial⟩
      | int k =>
        cases ht
        obtain ⟨m, rfl, _, hw⟩ := DataW.trod_int hu hd
        exact ⟨m, rfl, hw⟩
      | string =>
        cases ht
        obtain ⟨s, rfl, _⟩ := DataW.trod_string hu hd
        exact ⟨s, rfl, trivial⟩
      | array len e =>
        simp only at ht
        cases h1 : tyL P n e with
        | none => rw [h1] at ht; cases ht
        | some σ =>
          rw [h1] at ht
          simp only at ht
          cases hq : Nat.beq (P.cellsOf e) σ.size && Nat.beq (P.cellsOf t) (Ty.arr len σ).size with
          | false => rw [hq] at ht; cases ht
          | true =>
            rw [hq] at ht
            cases ht
            simp only [Bool.and_eq_true] at hq
            have q1 := Nat.eq_of_beq_eq_true hq.1
            have q2 := Nat.eq_of_beq_eq_true hq.2
            simp only [DataW.trod, hu] at hd
            split at hd
            · rename_i hl
              cases hx : ((List.range len).mapM fun i => DataW.trod enc P w base spare held fuel e ((cs.drop (i * P.cellsOf e)).take (P.cellsOf e))) with
              | none => rw [hx] at hd; cases hd
              | some xs =>
                rw [List.range_eq_range'] at hx
                obtain ⟨x, e1, e2⟩ := array_RD (g := fun cs => DataW.trod enc P w base spare held fuel e cs) q1 (fun cs d hg => trod_RD n fuel e σ cs d h1 hg) len 0 xs hx
                refine ⟨x, ?_, e2⟩
                rw [Nat.zero_mul, List.drop_zero, List.take_of_length_le (by omega)] at e1
                exact e1
            · cases hd
      | struct fs =>
        simp only at ht
        cases h1 : fieldsL (tyL P n) P fs.toList 0 with
        | none => rw [h1] at ht; cases ht
        | some τs =>
          rw [h1] at ht
          simp only at ht
          cases hq : Nat.beq (P.cellsOf t) (Ty.tup τs).size with
          | false => rw [hq] at ht; cases ht
          | true =>
            rw [hq] at ht
            cases ht
            have q2 := Nat.eq_of_beq_eq_true hq
            simp only [DataW.trod, hu] at hd
            split at hd
            · rename_i hl
              cases hx : (fs.toList.mapM fun f => DataW.trod enc P w base spare held fuel f.type ((cs.drop f.offset).take (P.cellsOf f.type))) with
              | none => rw [hx] at hd; cases hd
              | some xs =>
                obtain ⟨x, e1, e2⟩ := fields_RD (P := P) (g := fun t cs => DataW.trod enc P w base spare held fuel t cs) (fun t τ cs d h hg => trod_RD n fuel t τ cs d h hg) fs.toList τs 0 xs h1 hx
                refine ⟨x, ?_, e2⟩
                rw [List.drop_zero, List.take_of_length_le (by omega)] at e1
                exact e1
            · cases hd
      | _ => simp at ht

end
end Go.Pv
