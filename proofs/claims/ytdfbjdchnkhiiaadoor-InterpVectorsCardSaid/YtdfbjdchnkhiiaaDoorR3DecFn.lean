/-
  Decode: what is known of the two functions, for all words and indices.
-/
import Derived.Test.YtdfbjdchnkhiiaaDoorR3DecLaw
namespace Go.Pv
open Go.Proofs
set_option maxRecDepth 1000000

/-! ### Operations, one by one -/
noncomputable abbrev k20 (k : Int) := evalF Tryd.prog tt call0 [] 55 sOp [.val .bool] (k, ())
noncomputable abbrev k23 (k : Int) := evalF Tryd.prog tt call0 [] 60 sOp [.val (.int .u8)] (k, ())
noncomputable abbrev k24 (k : Int) := evalF Tryd.prog tt call0 [] 39 sOp [.val (.int .u8)] (k, ())
noncomputable abbrev k17 (k : Int) := evalF Tryd.prog tt call0 [] 56 sOp [.val tI] (k, ())
noncomputable abbrev k22 (k : Int) := evalF Tryd.prog tt call0 [] 40 sOp [.val tI] (k, ())
def isB (o : Option (Bool × Unit)) (b : Bool) : Bool := match o with
  | some y => y.1 == b
  | none => false
def isI (o : Option (Int × Unit)) (b : Int) : Bool := match o with
  | some y => y.1 == b
  | none => false
theorem isB_eq {o : Option (Bool × Unit)} {b : Bool} (h : isB o b = true) : o = some (b, ()) := by
  cases o with
  | none => cases h
  | some y => obtain ⟨y, ⟨⟩⟩ := y; simp only [isB, beq_iff_eq] at h; rw [h]
theorem isI_eq {o : Option (Int × Unit)} {b : Int} (h : isI o b = true) : o = some (b, ()) := by
  cases o with
  | none => cases h
  | some y => obtain ⟨y, ⟨⟩⟩ := y; simp only [isI, beq_iff_eq] at h; rw [h]
def each38 (p : Int → Bool) : Bool := (List.range 38).all fun n => p ((n + 1 : Nat) : Int)
theorem each38_at {p : Int → Bool} (h : each38 p = true) {k : Int} (h1 : 1 ≤ k) (h2 : k ≤ 38) : p k = true := by
  have := List.all_eq_true.1 h (k.toNat - 1) (List.mem_range.2 (by omega))
  have e : ((k.toNat - 1 + 1 : Nat) : Int) = k := by omega
  rwa [e] at this
theorem t20 : each38 (fun k => isB (k20 k) true) = true := by kernel_rfl
theorem t23 : each38 (fun k => isI (k23 k) (kindOf k)) = true := by kernel_rfl
theorem t24 : each38 (fun k => isI (k24 k) (kindOf k)) = true := by kernel_rfl
theorem t17 : each38 (fun k => isI (k17 k) (lenOfK (kindOf k))) = true := by kernel_rfl
theorem t22 : each38 (fun k => isI (k22 k) (lenOfK (kindOf k))) = true := by kernel_rfl

theorem DK_iff {q : Nat} {k : Int} : DK q k = true ↔ (1 ≤ k ∧ k ≤ 38) ∧ kindOf k = q := by
  simp only [DK, Bool.and_eq_true, decide_eq_true_eq]
  constructor
  · rintro ⟨h, h2⟩; exact ⟨h, Nat.eq_of_beq_eq_true h2⟩
  · rintro ⟨h, rfl⟩; exact ⟨h, Nat.beq_refl _⟩

theorem onD {sr : Sig} {f : FuncId} {q : Nat} {c : Shape.den (resShape 0 sr)} (h : ∀ k : Int, DK q k = true → evalF Tryd.prog tt call0 [] f sOp sr (k, ()) = some c) :
    FnOK Tryd.prog f sOp sr fun x => bif DK q x.1 then some c else none := by
  refine fnOK (lss := []) call0_ok fun x y hF => ?_
  obtain ⟨k, ⟨⟩⟩ := x
  change (bif DK q k then some c else none) = some y at hF
  cases ho : DK q k with
  | false => rw [ho] at hF; cases hF
  | true => rw [ho] at hF; exact (h k ho).trans hF

theorem count23 (fn : Func) (h : Tryd.prog.funcs[60]? = some fn) : fn.results.size = 1 := by
  have : (Tryd.prog.funcs[60]?).map (fun fn => fn.results.size) = some 1 := by kernel_rfl
  rw [h] at this; simpa using this
theorem count24 (fn : Func) (h : Tryd.prog.funcs[39]? = some fn) : fn.results.size = 1 := by
  have : (Tryd.prog.funcs[39]?).map (fun fn => fn.results.size) = some 1 := by kernel_rfl
  rw [h] at this; simpa using this
theorem count17 (fn : Func) (h : Tryd.prog.funcs[56]? = some fn) : fn.results.size = 1 := by
  have : (Tryd.prog.funcs[56]?).map (fun fn => fn.results.size) = some 1 := by kernel_rfl
  rw [h] at this; simpa using this
theorem count22 (fn : Func) (h : Tryd.prog.funcs[40]? = some fn) : fn.results.size = 1 := by
  have : (Tryd.prog.funcs[40]?).map (fun fn => fn.results.size) = some 1 := by kernel_rfl
  rw [h] at this; simpa using this
theorem flat_u8 : ∀ s ∈ ([.val (.int .u8)] : Sig), s.flat = true := by intro s hs; simp at hs; subst hs; rfl
theorem flat_int : ∀ s ∈ ([.val tI] : Sig), s.flat = true := by intro s hs; simp at hs; subst hs; rfl

theorem specsD_ok {q : Nat} {q' len : Int} (hq : (q : Int) = q') (hlen : lenOfK q = len) (R : Type) : SpecOK Tryd.prog (specsD (DK q) q' len R) := by
  subst hq; subst hlen
  intro f s hs
  unfold specsD at hs
  split at hs
  · cases hs; exact specD_ok (onD fun k hk => isB_eq (each38_at t20 (DK_iff.1 hk).1.1 (DK_iff.1 hk).1.2)) flat_bool count20
  · cases hs; exact specD_ok (onD fun k hk => by have := isI_eq (each38_at t23 (DK_iff.1 hk).1.1 (DK_iff.1 hk).1.2); rw [(DK_iff.1 hk).2] at this; exact this) flat_u8 count23
  · cases hs; exact specD_ok (onD fun k hk => by have := isI_eq (each38_at t24 (DK_iff.1 hk).1.1 (DK_iff.1 hk).1.2); rw [(DK_iff.1 hk).2] at this; exact this) flat_u8 count24
  · cases hs; exact specD_ok (onD fun k hk => by have := isI_eq (each38_at t17 (DK_iff.1 hk).1.1 (DK_iff.1 hk).1.2); rw [(DK_iff.1 hk).2] at this; exact this) flat_int count17
  · cases hs; exact specD_ok (onD fun k hk => by have := isI_eq (each38_at t22 (DK_iff.1 hk).1.1 (DK_iff.1 hk).1.2); rw [(DK_iff.1 hk).2] at this; exact this) flat_int count22
  · cases hs

theorem callD_ok {q : Nat} {q' len : Int} (hq : (q : Int) = q') (hlen : lenOfK q = len) (R : Type) : CallsOK Tryd.prog (callD (DK q) q' len R) := callsE_ok tt_ok mixed names (specsD_ok hq hlen R) 20

/-! ### The two functions -/
/-- the input: words, an index -/
def inOK (l : List Int) : Prop := Words l ∧ l.length ≤ big
open Classical in
noncomputable def FDec (x : Sig.den sDec) : Option (Shape.den (resShape 0 rDec)) := if inOK x.1 then decA x.1 x.2.1 else none

theorem FDec_in {l : List Int} (hl : inOK l) (i : Int) : FDec (l, i, ()) = decA l i := if_pos hl
theorem FDec_out {l : List Int} (hl : ¬ inOK l) (i : Int) : FDec (l, i, ()) = none := if_neg hl

theorem one15 {q : Nat} {q' len : Int} {l : List Int} {i : Int} (hq : (q : Int) = q') (hlen : lenOfK q = len) {y : Shape.den (resShape 0 rDec)} (h : e15 (DK q) q' len l i = some y) :
    ∃ callE : (R : Type) → CallE R, (∀ R, CallsOK Tryd.prog (callE R)) ∧ evalF Tryd.prog tt callE [] 33 sDec rDec (l, i, ()) = some y := ⟨_, callD_ok hq hlen, h⟩
theorem one16 {q : Nat} {q' len : Int} {l : List Int} {i : Int} (hq : (q : Int) = q') (hlen : lenOfK q = len) {y : Shape.den (resShape 0 rDec)} (h : e16 (DK q) q' len l i = some y) :
    ∃ callE : (R : Type) → CallE R, (∀ R, CallsOK Tryd.prog (callE R)) ∧ evalF Tryd.prog tt callE [] 16 sDec rDec (l, i, ()) = some y := ⟨_, callD_ok hq hlen, h⟩

theorem kind_lt {k : Int} (h1 : 1 ≤ k) (h2 : k ≤ 38) : kindOf k < 8 := by
  have : each38 (fun k => decide (kindOf k < 8)) = true := by decide
  exact of_decide_eq_true (each38_at this h1 h2)

theorem some15 {l : List Int} (hl : inOK l) {i : Int} {y : Shape.den (resShape 0 rDec)} (h : decA l i = some y) :
    ∃ callE : (R : Type) → CallE R, (∀ R, CallsOK Tryd.prog (callE R)) ∧ evalF Tryd.prog tt callE [] 33 sDec rDec (l, i, ()) = some y := by
  by_cases h1 : i < 0 ∨ (l.length : Int) ≤ i
  · refine ⟨_, callU_ok, (e15u_eq l i).trans ?_⟩
    unfold decA at h
    rw [if_pos h1] at h
    rcases h1 with h1 | h1
    · rw [decide_eq_true h1]; exact h
    · rw [decide_eq_true (show i ≥ (l.length : Int) from h1)]
      cases decide (i < 0) <;> exact h
  · by_cases h2 : wd l i < 1 ∨ 38 < wd l i
    · refine ⟨_, callU_ok, (e15u_eq l i).trans ?_⟩
      unfold decA at h
      rw [if_neg h1, if_pos h2] at h
      have hr : inRange i l.length = true := by simp [inRange]; omega
      obtain ⟨r1, r2⟩ := wd_nonneg hl.1 i
      have ho : outK (IntKind.u8.wrap (if 255 < wd l i then 255 else wd l i)) = true := by
        rw [u8_small (by split <;> omega) (by split <;> omega)]
        simp only [outK, Bool.or_eq_true, Bool.and_eq_true, decide_eq_true_eq]
        split <;> omega
      rw [decide_eq_false (by omega), decide_eq_false (show ¬ i ≥ (l.length : Int) by omega), hr, ho]
      exact h
    · have hd : ∀ q, kindOf (wd l i) = q → Dcase q l i := fun q hq => ⟨hl.1, hl.2, by omega, by omega, DK_iff.2 ⟨by omega, hq⟩⟩
      have hk := kind_lt (k := wd l i) (by omega) (by omega)
      have key : ∀ q, kindOf (wd l i) = q → q < 8 → ∃ callE : (R : Type) → CallE R, (∀ R, CallsOK Tryd.prog (callE R)) ∧ evalF Tryd.prog tt callE [] 33 sDec rDec (l, i, ()) = some y := by
        intro q hq hlt
        have c := hd q hq
        match q, hlt, c with
        | 0, _, c => exact one15 (q := 0) (q' := 0) (len := 1) rfl rfl ((e15_0 _ l i).trans ((dec15_0 c).trans h))
        | 1, _, c => exact one15 (q := 1) (q' := 1) (len := 2) rfl rfl ((e15_1 _ l i).trans ((dec15_n (by unfold KB; omega) rfl rfl c).trans h))
        | 2, _, c => exact one15 (q := 2) (q' := 2) (len := 2) rfl rfl ((e15_2 _ l i).trans ((dec15_n (by unfold KB; omega) rfl rfl c).trans h))
        | 3, _, c => exact one15 (q := 3) (q' := 3) (len := 2) rfl rfl ((e15_3 _ l i).trans ((dec15_n (by unfold KB; omega) rfl rfl c).trans h))
        | 4, _, c => exact one15 (q := 4) (q' := 4) (len := 2) rfl rfl ((e15_4 _ l i).trans ((dec15_n (by unfold KB; omega) rfl rfl c).trans h))
        | 5, _, c => exact one15 (q := 5) (q' := 5) (len := 3) rfl rfl ((e15_5 _ l i).trans ((dec15_5 c).trans h))
        | 6, _, c => exact one15 (q := 6) (q' := 6) (len := 3) rfl rfl ((e15_6 _ l i).trans ((dec15_6 c).trans h))
        | 7, _, c => exact one15 (q := 7) (q' := 7) (len := 7) rfl rfl ((e15_7 _ l i).trans ((dec15_7 c).trans h))
        | q + 8, hlt, _ => omega
      exact key _ rfl hk

theorem some16 {l : List Int} (hl : inOK l) {i : Int} {y : Shape.den (resShape 0 rDec)} (h : decA l i = some y) :
    ∃ callE : (R : Type) → CallE R, (∀ R, CallsOK Tryd.prog (callE R)) ∧ evalF Tryd.prog tt callE [] 16 sDec rDec (l, i, ()) = some y := by
  by_cases h1 : i < 0 ∨ (l.length : Int) ≤ i
  · refine one16 (q := 0) (q' := 0) (len := 1) rfl rfl ((e16_0 _ l i).trans ?_)
    unfold decA at h
    rw [if_pos h1] at h
    unfold n16_0 pre16
    rcases h1 with h1 | h1
    · rw [decide_eq_true h1]; exact h
    · rw [decide_eq_true (show i ≥ (l.length : Int) from h1)]
      cases decide (i < 0) <;> exact h
  · by_cases h2 : wd l i < 1 ∨ 38 < wd l i
    · refine one16 (q := 0) (q' := 0) (len := 1) rfl rfl ((e16_0 _ l i).trans ?_)
      unfold decA at h
      rw [if_neg h1, if_pos h2] at h
      have hr : inRange i l.length = true := by simp [inRange]; omega
      unfold n16_0 pre16
      rw [decide_eq_false (by omega), decide_eq_false (show ¬ i ≥ (l.length : Int) by omega), hr]
      rcases h2 with h2 | h2
      · rw [decide_eq_true h2]; exact h
      · rw [decide_eq_false (show ¬ wd l i < 1 by omega), decide_eq_true (show wd l i > 38 from h2)]; exact h
    · have hd : ∀ q, kindOf (wd l i) = q → Dcase q l i := fun q hq => ⟨hl.1, hl.2, by omega, by omega, DK_iff.2 ⟨by omega, hq⟩⟩
      have hk := kind_lt (k := wd l i) (by omega) (by omega)
      have key : ∀ q, kindOf (wd l i) = q → q < 8 → ∃ callE : (R : Type) → CallE R, (∀ R, CallsOK Tryd.prog (callE R)) ∧ evalF Tryd.prog tt callE [] 16 sDec rDec (l, i, ()) = some y := by
        intro q hq hlt
        have c := hd q hq
        match q, hlt, c with
        | 0, _, c => exact one16 (q := 0) (q' := 0) (len := 1) rfl rfl ((e16_0 _ l i).trans ((dec16_0 c).trans h))
        | 1, _, c => exact one16 (q := 1) (q' := 1) (len := 2) rfl rfl ((e16_1 _ l i).trans ((dec16_n rfl rfl c).trans h))
        | 2, _, c => exact one16 (q := 2) (q' := 2) (len := 2) rfl rfl ((e16_2 _ l i).trans ((dec16_n rfl rfl c).trans h))
        | 3, _, c => exact one16 (q := 3) (q' := 3) (len := 2) rfl rfl ((e16_3 _ l i).trans ((dec16_n rfl rfl c).trans h))
        | 4, _, c => exact one16 (q := 4) (q' := 4) (len := 2) rfl rfl ((e16_4 _ l i).trans ((dec16_n rfl rfl c).trans h))
        | 5, _, c => exact one16 (q := 5) (q' := 5) (len := 3) rfl rfl ((e16_5 _ l i).trans ((dec16_5 c).trans h))
        | 6, _, c => exact one16 (q := 6) (q' := 6) (len := 3) rfl rfl ((e16_6 _ l i).trans ((dec16_6 c).trans h))
        | 7, _, c => exact one16 (q := 7) (q' := 7) (len := 7) rfl rfl ((e16_7 _ l i).trans ((dec16_7 c).trans h))
        | q + 8, hlt, _ => omega
      exact key _ rfl hk

theorem fnSome {f : FuncId} {sa sr : Sig} {F : sa.den → Option (Shape.den (resShape 0 sr))}
    (h : ∀ x y, F x = some y → ∃ callE : (R : Type) → CallE R, (∀ R, CallsOK Tryd.prog (callE R)) ∧ ∃ lss, evalF Tryd.prog tt callE lss f sa sr x = some y) : FnOK Tryd.prog f sa sr F := fun x y hF => by
  obtain ⟨callE, h1, lss, h2⟩ := h x y hF
  exact evalF_ok tt_ok mixed names h1 h2

theorem fn15 : FnOK Tryd.prog 33 sDec rDec FDec := fnSome fun x y h => by
  obtain ⟨l, i, ⟨⟩⟩ := x
  by_cases hl : inOK l
  · obtain ⟨callE, h1, h2⟩ := some15 hl ((FDec_in hl i).symm.trans h)
    exact ⟨callE, h1, [], h2⟩
  · cases (FDec_out hl i).symm.trans h
theorem fn16 : FnOK Tryd.prog 16 sDec rDec FDec := fnSome fun x y h => by
  obtain ⟨l, i, ⟨⟩⟩ := x
  by_cases hl : inOK l
  · obtain ⟨callE, h1, h2⟩ := some16 hl ((FDec_in hl i).symm.trans h)
    exact ⟨callE, h1, [], h2⟩
  · cases (FDec_out hl i).symm.trans h

theorem numD_some (q : Nat) (low high : Int) (l : List Int) (i w : Int) : ∃ y, numD q low high l i w = some y := by
  unfold numD; split <;> exact ⟨_, rfl⟩
theorem decK_some (q : Nat) (l : List Int) (i w : Int) : ∃ y, decK q l i w = some y := by
  unfold decK
  split <;> first | exact ⟨_, rfl⟩ | exact numD_some _ _ _ _ _ _ | ((repeat' split) <;> exact ⟨_, rfl⟩)
theorem decA_some (l : List Int) (i : Int) : ∃ y, decA l i = some y := by
  unfold decA
  split
  · exact ⟨_, rfl⟩
  · split
    · exact ⟨_, rfl⟩
    · split
      · exact ⟨_, rfl⟩
      · exact decK_some _ _ _ _
end Go.Pv
