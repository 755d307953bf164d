/-
  The laws IcodeLists, IcodeWhole, IcodeBack and IcodePrefixes return true.
-/
import Derived.Test.YtidbhhfilhognaaR1Tops
import Derived.Test.YtidbhhfilhognaaR1AllLaw
namespace Go.Pv
open Go.Proofs
set_option maxRecDepth 1000000

def knD (k : Int) : Bool := decide (1 ≤ k) && decide (k ≤ 38)
theorem knD_iff {k : Int} : knD k = true ↔ 1 ≤ k ∧ k ≤ 38 := by simp [knD]
def lnD (k : Int) : Int := lenOfK (kindOf k)
noncomputable def gT : GT := { g12 := FEnc, g15 := FDec, D := knD, g17 := lnD, g14 := e14, g29 := e29, g30 := fun x => e30 gA x.1, g31 := fun x => e31 gA x.1, g28 := fun x => e28 gA x.1, g32 := fun x => e32 gA x.1 }

theorem cnt12 (fn : Func) (h : Try.prog.funcs[12]? = some fn) : fn.results.size = 2 := by
  have : (Try.prog.funcs[12]?).map (fun fn => fn.results.size) = some 2 := by kernel_rfl
  rw [h] at this; simpa using this
theorem cnt13 (fn : Func) (h : Try.prog.funcs[13]? = some fn) : fn.results.size = 2 := by
  have : (Try.prog.funcs[13]?).map (fun fn => fn.results.size) = some 2 := by kernel_rfl
  rw [h] at this; simpa using this
theorem cnt14 (fn : Func) (h : Try.prog.funcs[14]? = some fn) : fn.results.size = 1 := by
  have : (Try.prog.funcs[14]?).map (fun fn => fn.results.size) = some 1 := by kernel_rfl
  rw [h] at this; simpa using this
theorem cnt15 (fn : Func) (h : Try.prog.funcs[15]? = some fn) : fn.results.size = 3 := by
  have : (Try.prog.funcs[15]?).map (fun fn => fn.results.size) = some 3 := by kernel_rfl
  rw [h] at this; simpa using this
theorem cnt16 (fn : Func) (h : Try.prog.funcs[16]? = some fn) : fn.results.size = 3 := by
  have : (Try.prog.funcs[16]?).map (fun fn => fn.results.size) = some 3 := by kernel_rfl
  rw [h] at this; simpa using this
theorem cnt28 (fn : Func) (h : Try.prog.funcs[28]? = some fn) : fn.results.size = 3 := by
  have : (Try.prog.funcs[28]?).map (fun fn => fn.results.size) = some 3 := by kernel_rfl
  rw [h] at this; simpa using this
theorem cnt29 (fn : Func) (h : Try.prog.funcs[29]? = some fn) : fn.results.size = 1 := by
  have : (Try.prog.funcs[29]?).map (fun fn => fn.results.size) = some 1 := by kernel_rfl
  rw [h] at this; simpa using this
theorem cnt30 (fn : Func) (h : Try.prog.funcs[30]? = some fn) : fn.results.size = 3 := by
  have : (Try.prog.funcs[30]?).map (fun fn => fn.results.size) = some 3 := by kernel_rfl
  rw [h] at this; simpa using this
theorem cnt31 (fn : Func) (h : Try.prog.funcs[31]? = some fn) : fn.results.size = 3 := by
  have : (Try.prog.funcs[31]?).map (fun fn => fn.results.size) = some 3 := by kernel_rfl
  rw [h] at this; simpa using this
theorem cnt32 (fn : Func) (h : Try.prog.funcs[32]? = some fn) : fn.results.size = 3 := by
  have : (Try.prog.funcs[32]?).map (fun fn => fn.results.size) = some 3 := by kernel_rfl
  rw [h] at this; simpa using this
theorem cnt5 (fn : Func) (h : Try.prog.funcs[5]? = some fn) : fn.results.size = 1 := by
  have : (Try.prog.funcs[5]?).map (fun fn => fn.results.size) = some 1 := by kernel_rfl
  rw [h] at this; simpa using this
theorem cnt8 (fn : Func) (h : Try.prog.funcs[8]? = some fn) : fn.results.size = 1 := by
  have : (Try.prog.funcs[8]?).map (fun fn => fn.results.size) = some 1 := by kernel_rfl
  rw [h] at this; simpa using this
theorem cnt9 (fn : Func) (h : Try.prog.funcs[9]? = some fn) : fn.results.size = 1 := by
  have : (Try.prog.funcs[9]?).map (fun fn => fn.results.size) = some 1 := by kernel_rfl
  rw [h] at this; simpa using this
theorem cnt10 (fn : Func) (h : Try.prog.funcs[10]? = some fn) : fn.results.size = 1 := by
  have : (Try.prog.funcs[10]?).map (fun fn => fn.results.size) = some 1 := by kernel_rfl
  rw [h] at this; simpa using this
theorem flatEnc : ∀ s ∈ rEnc, s.flat = true := by intro s hs; simp at hs; rcases hs with rfl | rfl <;> rfl
theorem flatDec : ∀ s ∈ rDec, s.flat = true := by intro s hs; simp at hs; rcases hs with rfl | rfl <;> rfl
theorem flatLw : ∀ s ∈ rLw, s.flat = true := by intro s hs; simp at hs; rcases hs with rfl | rfl <;> rfl
theorem flatLi : ∀ s ∈ rLi, s.flat = true := by intro s hs; simp at hs; rcases hs with rfl | rfl <;> rfl

theorem specsA_ok (R : Type) : SpecOK Try.prog (specsA gA R) := by
  intro f s hs
  unfold specsA at hs
  split at hs
  · cases hs; exact specE_ok fn12' flatEnc cnt12
  · cases hs; exact specE_ok fn13' flatEnc cnt13
  · cases hs; exact specE_ok fn15 flatDec cnt15
  · cases hs; exact specE_ok fn16 flatDec cnt16
  · cases hs
theorem callA_ok (R : Type) : CallsOK Try.prog (callA gA R) := callsE_ok tt_ok mixed names (specsA_ok R) 20

theorem fn30 : FnOK Try.prog 30 sLi rLw fun x => e30 gA x.1 := fnOK callA_ok fun x y h => by obtain ⟨l, ⟨⟩⟩ := x; exact h
theorem fn31 : FnOK Try.prog 31 sLi rLw fun x => e31 gA x.1 := fnOK callA_ok fun x y h => by obtain ⟨l, ⟨⟩⟩ := x; exact h
theorem fn28 : FnOK Try.prog 28 sLw rLi fun x => e28 gA x.1 := fnOK callA_ok fun x y h => by obtain ⟨l, ⟨⟩⟩ := x; exact h
theorem fn32 : FnOK Try.prog 32 sLw rLi fun x => e32 gA x.1 := fnOK callA_ok fun x y h => by obtain ⟨l, ⟨⟩⟩ := x; exact h
theorem fn17 : FnOK Try.prog 17 sOp [.val tI] fun x => bif knD x.1 then some (lnD x.1, ()) else none := fnOK (lss := []) call0_ok fun x y h => by
  obtain ⟨k, ⟨⟩⟩ := x
  change (bif knD k then some (lnD k, ()) else none) = some y at h
  cases ho : knD k with
  | false => rw [ho] at h; cases h
  | true =>
    rw [ho] at h
    have := isI_eq (each38_at t17 (knD_iff.1 ho).1 (knD_iff.1 ho).2)
    exact this.trans h

theorem specsT_ok (R : Type) : SpecOK Try.prog (specsT gT R) := by
  intro f s hs
  unfold specsT at hs
  split at hs
  · cases hs; exact constE_ok livesOK
  · cases hs; exact specE_ok fn12' flatEnc cnt12
  · cases hs; exact specE_ok fn14 flat_bool cnt14
  · cases hs; exact specE_ok fn15 flatDec cnt15
  · cases hs; exact specD_ok fn17 flat_int count17
  · cases hs; exact specE_ok fn28 flatLi cnt28
  · cases hs; exact specE_ok fn29 flat_bool cnt29
  · cases hs; exact specE_ok fn30 flatLw cnt30
  · cases hs; exact specE_ok fn31 flatLw cnt31
  · cases hs; exact specE_ok fn32 flatLi cnt32
  · cases hs
theorem callT_ok (R : Type) : CallsOK Try.prog (callT gT R) := callsE_ok tt_ok mixed names (specsT_ok R) 20

section
variable {l : List In} {c : List Int}

theorem q30 (hl : ∀ x ∈ l, domIn x) (hlen : l.length ≤ big) : gT.g30 (l, ()) = some (toE (eA l [] 0)) := eval30 hl hlen
theorem q31 (hl : ∀ x ∈ l, domIn x) (hlen : l.length ≤ big) : gT.g31 (l, ()) = some (toE (eA l [] 0)) := eval31 hl hlen
theorem q28 (hc : inOK c) : gT.g28 (c, ()) = some (decAll' c) := eval28 hc
theorem q32 (hc : inOK c) : gT.g32 (c, ()) = some (decAll' c) := eval32 hc
theorem q14 (l : List Int) (hl : l.length ≤ 1000000000) : gT.g14 (l, l, ()) = some (true, ()) := same_self l hl
theorem q29 (l : List In) (hl : l.length ≤ 1000000000) : gT.g29 (l, l, ()) = some (true, ()) := same29 l hl

theorem fit_true {k : Bo} (h : l.length ≤ 2000 → c.length ≤ 2000 → k = ans true) : fit2000 l c k = ans true := by
  unfold fit2000
  by_cases h1 : l.length ≤ 2000
  · by_cases h2 : c.length ≤ 2000
    · rw [decide_eq_false (by omega), decide_eq_false (by omega)]; exact h h1 h2
    · rw [decide_eq_true (show (c.length : Int) > 2000 by omega)]; cases decide ((l.length : Int) > 2000) <;> rfl
  · rw [decide_eq_true (by omega)]; rfl

theorem top8 (hl : ∀ x ∈ l, domIn x) (hlen : l.length ≤ big) (hc : inOK c) : evalF Try.prog tt (callT gT) [] 8 sLL [.val .bool] (l, c, ()) = some (true, ()) := by
  refine (e8_eq gT l c).trans (fit_true fun _ _ => ?_)
  rw [q30 hl hlen, q31 hl hlen, q28 hc, q32 hc]
  have h1 : (toE (eA l [] 0)).1.length ≤ 1024 := eA_len (by simp)
  have h2 := decAll_len hc.1
  simp only [beq_self_eq_true, cond_true]
  rw [q14 _ (by omega), q29 _ (by omega)]
  rfl

/-- EncodeAll returns an error or code -/
theorem eA_cases (l : List In) : (∃ a, eA l [] 0 = .inl (a, ()) ∧ Code1 l a ∧ a.length ≤ 1024) ∨ ∃ i e, eA l [] 0 = .inr ([], i, e, ()) ∧ e ≠ 0 := by
  have hlen : (toE (eA l [] 0)).1.length ≤ 1024 := eA_len (by simp)
  have key : ∀ (r : List In) (out : List Int) (i : Int) (z : T30), eA r out i = .inr z → ∃ i e, z = ([], i, e, ()) ∧ e ≠ 0 := by
    intro r
    induction r with
    | nil => intro out i z h; simp [eA] at h
    | cons x r ih =>
      intro out i z h
      simp only [eA] at h
      split at h
      · split at h
        · simp only [Sum.inr.injEq] at h; subst h; exact ⟨_, _, rfl, by decide⟩
        · exact ih _ _ _ h
      · rename_i he
        simp only [Sum.inr.injEq] at h; subst h; exact ⟨_, _, rfl, he⟩
  cases h : eA l [] 0 with
  | inl y =>
    obtain ⟨a, ⟨⟩⟩ := y
    rw [h] at hlen
    exact .inl ⟨a, rfl, by simpa using eA_code h Code1.nil, hlen⟩
  | inr z =>
    obtain ⟨i, e, rfl, he⟩ := key _ _ _ _ h
    exact .inr ⟨i, e, rfl, he⟩

theorem Code1.words {l : List In} {a : List Int} (h : Code1 l a) (hl : ∀ x ∈ l, InOK x) : Words a := by
  induction h with
  | nil => intro w hw; cases hw
  | snoc h hx ih =>
    rename_i l a x w
    intro v hv
    rcases List.mem_append.1 hv with hv | hv
    · exact ih (fun y hy => hl y (List.mem_append_left _ hy)) v hv
    · have hx' : InOK x := hl x (by simp)
      have hk := encA_known hx
      obtain ⟨k, a, b, ⟨x1, x2⟩, ⟨x3, x4⟩, x5, x6⟩ := x
      change 1 ≤ k ∧ k ≤ 38 at hk
      obtain ⟨q0, q1, q2, q3, q4, q5, q6⟩ : (0 ≤ k ∧ k ≤ 255) ∧ (0 ≤ x1 ∧ x1 ≤ 65535) ∧ (0 ≤ x2 ∧ x2 ≤ 65535) ∧ (0 ≤ x3 ∧ x3 ≤ 65535) ∧ (0 ≤ x4 ∧ x4 ≤ 65535) ∧ (0 ≤ x5 ∧ x5 ≤ 65535) ∧ (0 ≤ x6 ∧ x6 ≤ 65535) := hx'
      have h' : encK (kindOf k) k a b x1 x2 x3 x4 x5 x6 = (w, 0, ()) := (encA_in hk.1 hk.2).symm.trans hx
      have num : ∀ n : Int, -56 ≤ n → n ≤ 2047 → 0 ≤ nw n ∧ nw n ≤ 65535 := fun n h1 h2 => by unfold nw; split <;> omega
      have encn : ∀ low high : Int, -56 ≤ low → high ≤ 2047 → encN low high k a b x1 x2 x3 x4 x5 x6 = (w, 0, ()) → 0 ≤ v ∧ v ≤ 65535 := by
        intro low high hl hh h
        unfold encN at h
        split at h
        · split at h
          · rename_i hr
            simp only [Prod.mk.injEq, and_true] at h
            subst h
            have := num a (by omega) (by omega)
            simp only [List.mem_cons, List.not_mem_nil, or_false] at hv
            rcases hv with rfl | rfl
            · exact ⟨Int.le_trans (by decide) hk.1, Int.le_trans hk.2 (by decide)⟩
            · exact this
          · cases h
        · cases h
      have hk' : 0 ≤ k ∧ k ≤ 65535 := ⟨Int.le_trans (by decide) hk.1, Int.le_trans hk.2 (by decide)⟩
      have hlt := kind_lt hk.1 hk.2
      generalize kindOf k = q at *
      match q, hlt with
      | 0, _ =>
        simp only [encK] at h'
        split at h'
        · simp only [Prod.mk.injEq, and_true] at h'
          subst h'
          simp only [List.mem_cons, List.not_mem_nil, or_false] at hv
          rcases hv with rfl
          exact hk'
        · cases h'
      | 1, _ => exact encn _ _ (by omega) (by omega) h'
      | 2, _ => exact encn _ _ (by omega) (by omega) h'
      | 3, _ => exact encn _ _ (by omega) (by omega) h'
      | 4, _ => exact encn _ _ (by omega) (by omega) h'
      | 5, _ =>
        simp only [encK] at h'
        split at h'
        · split at h'
          · rename_i hr
            simp only [Prod.mk.injEq, and_true] at h'
            subst h'
            have n1 := num a (by omega) (by omega)
            have n2 := num b (by omega) (by omega)
            simp only [List.mem_cons, List.not_mem_nil, or_false] at hv
            rcases hv with rfl | rfl | rfl
            · exact hk'
            · exact n1
            · exact n2
          · cases h'
        · cases h'
      | 6, _ =>
        simp only [encK] at h'
        split at h'
        · split at h'
          · simp only [Prod.mk.injEq, and_true] at h'
            subst h'
            simp only [List.mem_cons, List.not_mem_nil, or_false] at hv
            rcases hv with rfl | rfl | rfl
            · exact hk'
            · exact q1
            · exact q2
          · cases h'
        · cases h'
      | 7, _ =>
        simp only [encK] at h'
        split at h'
        · split at h'
          · simp only [Prod.mk.injEq, and_true] at h'
            subst h'
            simp only [List.mem_cons, List.not_mem_nil, or_false] at hv
            rcases hv with rfl | rfl | rfl | rfl | rfl | rfl | rfl
            · exact hk'
            · exact q1
            · exact q2
            · exact q3
            · exact q4
            · exact q5
            · exact q6
          · cases h'
        · cases h'
      | q + 8, hlt => omega

theorem InOK.dom {x : In} (h : InOK x) : domIn x := h.1

theorem tail9_true (hc : inOK c) : tail9 gT c = ans true := by
  unfold tail9
  rw [q28 hc]
  simp only
  unfold decAll'
  by_cases h : 1024 < c.length
  · rw [if_pos h]; rfl
  · rw [if_neg h]
    cases hd : dA (c.length + 1) c [] 0 with
    | inr y =>
      have key : ∀ (n : Nat) (out : List In) (i : Int) (z : T28), dA n c out i = .inr z → ∃ i e, z = ([], i, e, ()) ∧ e ≠ 0 := by
        intro n
        induction n with
        | zero => intro out i z h; simp [dA] at h
        | succ n ih =>
          intro out i z h
          simp only [dA] at h
          split at h
          · split at h
            · cases h
            · split at h
              · exact ih _ _ _ h
              · rename_i he
                simp only [Sum.inr.injEq] at h; subst h; exact ⟨_, _, rfl, he⟩
          · cases h
      obtain ⟨i, e, rfl, he⟩ := key _ _ _ _ hd
      have b2 : (e != 0) = true := by simp [he]
      simp only [toD, b2, cond_true]
      rfl
    | inl y =>
      obtain ⟨d, ⟨⟩⟩ := y
      obtain ⟨r, r1, r2, r3⟩ := dA_eA (i := 0) hc.1 (by omega) (by omega) (by omega) hd
      rw [List.nil_append] at r1
      subst r1
      have h0 : eA d [] 0 = .inl (c, ()) := by simpa using r3 0
      have hlen : d.length ≤ 1024 := by
        have := decAll_len hc.1
        unfold decAll' at this
        rw [if_neg h, hd] at this
        exact this
      simp only [toD]
      rw [q30 r2 (by unfold big; omega), h0]
      simp only [toE]
      rw [q14 c (by omega)]
      rfl

theorem top9 (hl : ∀ x ∈ l, InOK x) (hlen : l.length ≤ big) (hc : inOK c) : evalF Try.prog tt (callT gT) [] 9 sLL [.val .bool] (l, c, ()) = some (true, ()) := by
  refine (e9_eq gT l c).trans (fit_true fun h2 _ => ?_)
  rw [q30 (fun x hx => (hl x hx).dom) hlen]
  rcases eA_cases l with ⟨a, h, hcode, ha⟩ | ⟨i, e, h, he⟩
  · rw [h]
    simp only [toE]
    have hw : inOK a := ⟨hcode.words hl, by unfold big; omega⟩
    rw [q28 hw, code_decAll hcode ha]
    simp only
    rw [q29 l (by omega)]
    exact tail9_true hc
  · rw [h]
    simp only [toE]
    have b1 : (e == 0) = false := by simp [he]
    rw [b1]
    exact tail9_true hc

/-! ### IcodeBack -/
theorem numD_err {q : Nat} {low high : Int} {l : List Int} {i w : Int} {y : In × Int × Int × Unit} (h : numD q low high l i w = some y) (he : y.2.2.1 ≠ 0) : y.1 = (0, 0, 0, (0, 0), (0, 0), (0, 0)) ∧ y.2.1 = 0 := by
  unfold numD at h
  split at h
  · simp only [Option.some.injEq] at h; subst h; exact absurd rfl he
  · unfold er at h; simp only [Option.some.injEq] at h; subst h; exact ⟨rfl, rfl⟩
theorem er_err {e : Int} {y : In × Int × Int × Unit} (h : er e = some y) : y.1 = (0, 0, 0, (0, 0), (0, 0), (0, 0)) ∧ y.2.1 = 0 := by
  unfold er at h; simp only [Option.some.injEq] at h; subst h; exact ⟨rfl, rfl⟩
theorem decA_err {l : List Int} {i : Int} {y : In × Int × Int × Unit} (h : decA l i = some y) (he : y.2.2.1 ≠ 0) : y.1 = (0, 0, 0, (0, 0), (0, 0), (0, 0)) ∧ y.2.1 = 0 := by
  unfold decA at h
  split at h
  · exact er_err h
  · split at h
    · exact er_err h
    · split at h
      · exact er_err h
      · unfold decK at h
        split at h
        · simp only [Option.some.injEq] at h; subst h; exact absurd rfl he
        · exact numD_err h he
        · exact numD_err h he
        · exact numD_err h he
        · exact numD_err h he
        · split at h
          · split at h
            · simp only [Option.some.injEq] at h; subst h; exact absurd rfl he
            · exact er_err h
          · exact er_err h
        · split at h
          · simp only [Option.some.injEq] at h; subst h; exact absurd rfl he
          · exact er_err h
        · split at h
          · simp only [Option.some.injEq] at h; subst h; exact absurd rfl he
          · exact er_err h

theorem tail5_true (hc : inOK c) (i : Int) : tail5 gT c i = ans true := by
  unfold tail5
  obtain ⟨y, hy⟩ := decA_some c i
  have h1 : gT.g15 (c, i, ()) = some y := (FDec_in hc i).trans hy
  rw [h1]
  simp only
  by_cases he : y.2.2.1 = 0
  · have b2 : (y.2.2.1 != 0) = false := by simp [he]
    rw [b2, cond_false]
    obtain ⟨h0, d⟩ := decA_go hc.1 hy he
    have d1 := d.lo; have d2 := d.hi; have d3 := d.enc; have d4 := d.small
    have hf : gT.g12 (y.1, ()) = some (encA y.1) := FEnc_in ⟨Int.le_trans (by decide) d.known.1, Int.le_trans d.known.2 (by decide)⟩
    rw [hf, d3]
    simp only [beq_self_eq_true, cond_true]
    rw [decide_eq_true (show i ≥ 0 from h0), decide_eq_true (by omega), decide_eq_true d2]
    simp only [cond_true, Bool.and_self]
    have e : sliceFz c i.toNat (some y.2.1.toNat) = (c.drop i.toNat).take (y.2.1.toNat - i.toNat) := by
      show (c.take y.2.1.toNat).drop i.toNat = _
      rw [List.drop_take]
    rw [e, q14 _ (by simp; omega)]
  · have b2 : (y.2.2.1 != 0) = true := by simp [he]
    obtain ⟨e1, e2⟩ := decA_err hy he
    rw [b2, cond_true, e1, e2]
    rfl

theorem encA_words {x : In} {w : List Int} (hx : InOK x) (h : encA x = (w, 0, ())) : Words w := by
  have : Code1 [x] w := by simpa using Code1.nil.snoc h
  exact this.words fun y hy => by simp at hy; subst hy; exact hx

theorem top5 {x : In} (hx : InOK x) (hc : inOK c) (hlen : c.length ≤ 999999990) (i : Int) : evalF Try.prog tt (callT gT) [] 5 sBack [.val .bool] (x, c, i, ()) = some (true, ()) := by
  refine (e5_eq gT x c i).trans ?_
  have hf : gT.g12 (x, ()) = some (encA x) := FEnc_in hx.dom
  rw [hf]
  simp only
  by_cases he : (encA x).2.1 = 0
  · obtain ⟨w, hw⟩ : ∃ w, encA x = (w, 0, ()) := ⟨(encA x).1, by
      have : encA x = ((encA x).1, (encA x).2.1, ()) := rfl
      rw [he] at this; exact this⟩
    rw [hw]
    obtain ⟨⟨l1, l2, l3⟩, hd⟩ := enc_dec hw [] c
    simp only [beq_self_eq_true, cond_true]
    rw [decide_eq_true (show (w ++ c).length ≤ maxRow by simp [maxRow]; omega)]
    have hwc : inOK (w ++ c) := ⟨fun v hv => by
      rcases List.mem_append.1 hv with hv | hv
      · exact encA_words hx hw v hv
      · exact hc.1 v hv, by simp [big]; omega⟩
    have hd' : decA (w ++ c) 0 = some (x, (w.length : Int), 0, ()) := by simpa using hd
    have h1 : gT.g15 (w ++ c, 0, ()) = some (x, (w.length : Int), 0, ()) := (FDec_in hwc 0).trans hd'
    rw [h1]
    have hk := encA_known hw
    have hD : gT.D x.1 = true := knD_iff.2 hk
    have hg : gT.g17 x.1 = (w.length : Int) := l1.symm
    simp only [cond_true, eqIn_self, hD, hg, bne_self_eq_false, Bool.not_true, cond_false]
    exact tail5_true hc i
  · have b1 : ((encA x).2.1 == 0) = false := by simp [he]
    rw [b1]
    exact tail5_true hc i

/-! ### IcodePrefixes -/
structure P10 (l : List In) (a : List Int) (cut : Int) (at_ m : Int) : Prop where
  ex : ∃ (n : Nat) (out rest : List Int), m = n ∧ n ≤ l.length ∧ a = out ++ rest ∧ at_ = out.length ∧ Code1 (l.take n) out ∧ (out.length : Int) ≤ cut ∧
    (cut = out.length ∨ ∃ x w t, encA x = (w, 0, ()) ∧ rest = w ++ t ∧ cut < out.length + w.length)

theorem lim10 {a : List Int} (hl : l.length ≤ 500) (ha : a.length ≤ 1024) {cut : Int} (hcut : cut ≤ a.length) : ∀ (k n : Nat) (out rest : List Int), n + k = l.length → a = out ++ rest → Code1 (l.take n) out → (out.length : Int) ≤ cut →
    (∀ j, eA (l.drop n) out j = .inl (a, ())) → ∃ at_ m, lim (S10 gT) (l, a, cut, (out.length : Int), (n : Int), ()) = some (.inl (l, a, cut, at_, m, ())) ∧ P10 l a cut at_ m
  | 0, n, out, rest, hn, hsplit, hcode, hle, hE => by
    refine ⟨out.length, n, lim_end ?_, ⟨n, out, rest, rfl, by omega, hsplit, rfl, hcode, hle, ?_⟩⟩
    · rw [S10_eq, decide_eq_false (by omega)]; rfl
    · left
      have := hE 0
      rw [List.drop_of_length_le (by omega)] at this
      simp only [eA, Sum.inl.injEq, Prod.mk.injEq, and_true] at this
      subst this
      omega
  | k + 1, n, out, rest, hn, hsplit, hcode, hle, hE => by
    have hi : n < l.length := by omega
    have h2 : inRange (n : Int) l.length = true := by simp [inRange]; omega
    have hE0 := hE
    have hs := S10_eq gT l a cut (out.length : Int) (n : Int)
    rw [decide_eq_true (by omega), h2, getD_in' hi] at hs
    simp only [List.drop_eq_getElem_cons hi, eA] at hE
    have he : (encA l[n]).2.1 = 0 := by
      have := hE 0
      split at this
      · assumption
      · cases this
    obtain ⟨w, hw⟩ : ∃ w, encA l[n] = (w, 0, ()) := ⟨(encA l[n]).1, by
      have : encA l[n] = ((encA l[n]).1, (encA l[n]).2.1, ()) := rfl
      rw [he] at this; exact this⟩
    simp only [hw, if_true] at hE
    have hq : ¬ (1024 < out.length + w.length) := by
      have := hE 0
      split at this
      · cases this
      · assumption
    simp only [if_neg hq] at hE
    obtain ⟨⟨l1, l2, l3⟩, _⟩ := enc_dec hw [] []
    have hk := encA_known hw
    have hD : gT.D l[n].1 = true := knD_iff.2 hk
    have hg : gT.g17 l[n].1 = (w.length : Int) := l1.symm
    have hcode2 : Code1 (l.take (n + 1)) (out ++ w) := by
      have := hcode.snoc hw
      rwa [List.take_succ_eq_append_getElem hi]
    -- the code goes on with w
    have pre : ∀ (r : List In) (o : List Int) (j : Int), eA r o j = .inl (a, ()) → ∃ t, a = o ++ t := by
      intro r
      induction r with
      | nil => intro o j h; simp only [eA, Sum.inl.injEq, Prod.mk.injEq, and_true] at h; exact ⟨[], by simp [h]⟩
      | cons x r ih =>
        intro o j h
        simp only [eA] at h
        split at h
        · split at h
          · cases h
          · obtain ⟨t, ht⟩ := ih _ _ h
            exact ⟨(encA x).1 ++ t, by rw [ht]; simp⟩
        · cases h
    obtain ⟨t, ht⟩ := pre _ _ _ (hE 0)
    have hrest : rest = w ++ t := by
      have : out ++ rest = out ++ (w ++ t) := by rw [← hsplit, ht, List.append_assoc]
      exact List.append_cancel_left this
    have e1 : w64 ((out.length : Int) + (w.length : Int)) = ((out ++ w).length : Nat) := by rw [w64_small (by omega) (by omega)]; simp
    have e2 : w64 ((n : Int) + 1) = ((n + 1 : Nat) : Int) := by rw [w64_small (by omega) (by omega)]; omega
    simp only [hD, hg, cond_true, e1, e2] at hs
    by_cases hc : (((out ++ w).length : Nat) : Int) ≤ cut
    · rw [decide_eq_true hc] at hs
      obtain ⟨at_, m, h3, h4⟩ := lim10 hl ha hcut k (n + 1) (out ++ w) t (by omega) ht hcode2 hc (fun j => by
        have := hE (j - 1)
        rwa [show j - 1 + 1 = j by omega] at this)
      exact ⟨at_, m, (lim_next hs).trans h3, h4⟩
    · rw [decide_eq_false hc] at hs
      refine ⟨out.length, n, lim_end hs, ⟨n, out, rest, rfl, by omega, hsplit, rfl, hcode, hle, .inr ⟨l[n], w, t, hw, hrest, ?_⟩⟩⟩
      simp only [List.length_append] at hc
      omega

theorem Code1.sub {l : List In} {a : List Int} (h : Code1 l a) : ∀ x ∈ l, domIn x := by
  induction h with
  | nil => intro x hx; cases hx
  | snoc h hx ih =>
    intro y hy
    rcases List.mem_append.1 hy with hy | hy
    · exact ih y hy
    · simp at hy; subst hy
      have hk := encA_known hx
      exact ⟨Int.le_trans (by decide) hk.1, Int.le_trans hk.2 (by decide)⟩

theorem top10 (hl : ∀ x ∈ l, InOK x) (hlen : l.length ≤ big) {n : Int} (hn : 0 ≤ n ∧ n ≤ 65535) : evalF Try.prog tt (callT gT) [loop10] 10 sPre [.val .bool] (l, n, ()) = some (true, ()) := by
  refine (e10_eq gT l n).trans ?_
  by_cases h5 : l.length ≤ 500
  · rw [decide_eq_false (by omega), cond_false, q30 (fun x hx => (hl x hx).dom) hlen]
    rcases eA_cases l with ⟨a, h, hcode, ha⟩ | ⟨i, e, h, he⟩
    · rw [h]
      simp only [toE]
      have hw : inOK a := ⟨hcode.words hl, by unfold big; omega⟩
      have e1 : w64 ((a.length : Int) + 1) = (a.length : Int) + 1 := w64_small (by omega) (by omega)
      have e2 : w64 n = n := w64_small (by omega) (by omega)
      have e3 : ((a.length : Int) + 1 = 0) = False := by simp; omega
      simp only [e1, e2, e3]
      have hcut0 : 0 ≤ n.tmod ((a.length : Int) + 1) := Int.tmod_nonneg _ hn.1
      have hcut1 : n.tmod ((a.length : Int) + 1) < (a.length : Int) + 1 := Int.tmod_lt_of_pos _ (by omega)
      simp only [bne_self_eq_false, cond_false, decide_false]
      generalize n.tmod ((a.length : Int) + 1) = cut at *
      have e0 : ((0 : Nat) : Int) = 0 := rfl
      have hE : ∀ j, eA (l.drop 0) [] j = .inl (a, ()) := by
        have key : ∀ (r : List In) (o : List Int) (j j' : Int), eA r o j = .inl (a, ()) → eA r o j' = .inl (a, ()) := by
          intro r
          induction r with
          | nil => intro o j j' h; exact h
          | cons x r ih =>
            intro o j j' h
            simp only [eA] at h ⊢
            split at h
            · rename_i q; rw [if_pos q]
              split at h
              · cases h
              · rename_i q; rw [if_neg q]; exact ih _ _ _ h
            · cases h
        intro j
        exact key _ _ _ _ h
      obtain ⟨at_, m, h3, ⟨k, out, rest, rfl, hk, hsplit, rfl, hcd, hle, hend⟩⟩ := lim10 h5 ha (cut := cut) (by omega) l.length 0 [] a (by omega) rfl Code1.nil (by simpa using hcut0) hE
      rw [List.length_nil, e0] at h3
      rw [h3]
      have hlo : ((lenOf a 0 none : Nat) : Int) = (a.length : Int) := by simp [lenOf]
      have hcutE : Go.Pv.cut a 0 (some (cut.toNat - 0)) = a.take cut.toNat := by simp [Go.Pv.cut]
      simp only
      rw [hlo, decide_eq_true hcut0, decide_eq_true (show cut ≤ (a.length : Int) by omega), hcutE]
      simp only [Bool.and_self, cond_true]
      have hwt : inOK (a.take cut.toNat) := ⟨fun v hv => hw.1 v (List.mem_of_mem_take hv), by rw [List.length_take]; have h9 : a.length ≤ big := hw.2; omega⟩
      rw [q28 hwt]
      simp only
      have hol : out.length ≤ a.length := by rw [hsplit]; simp
      rcases hend with hc | ⟨x, w, t, hx, hr, hc⟩
      · have et : a.take cut.toNat = out := by
          rw [hsplit, hc]
          simp
        rw [et, code_decAll hcd (by omega)]
        have b1 : ((out.length : Int) == cut) = true := by simp [hc]
        have es : sliceFz l 0 (some ((k : Nat) : Int).toNat) = l.take k := by simp [sliceFz]
        rw [b1]
        simp only [beq_self_eq_true, cond_true]
        rw [decide_eq_true (show (0 : Int) ≤ (k : Int) by omega), decide_eq_true (show (k : Int) ≤ (l.length : Int) by omega), es]
        simp only [Bool.and_self, cond_true]
        rw [q29 _ (by simp; omega)]
        rfl
      · by_cases hq : cut = out.length
        · have et : a.take cut.toNat = out := by
            rw [hsplit, hq]
            simp
          rw [et, code_decAll hcd (by omega)]
          have b1 : ((out.length : Int) == cut) = true := by simp [hq]
          have es : sliceFz l 0 (some ((k : Nat) : Int).toNat) = l.take k := by simp [sliceFz]
          rw [b1]
          simp only [beq_self_eq_true, cond_true]
          rw [decide_eq_true (show (0 : Int) ≤ (k : Int) by omega), decide_eq_true (show (k : Int) ≤ (l.length : Int) by omega), es]
          simp only [Bool.and_self, cond_true]
          rw [q29 _ (by simp; omega)]
          rfl
        · obtain ⟨s, hs⟩ : ∃ s, s = w.take (cut.toNat - out.length) := ⟨_, rfl⟩
          have hsl : s.length = cut.toNat - out.length := by rw [hs]; simp; omega
          have et : a.take cut.toNat = out ++ s := by
            rw [hsplit, hr, hs, List.take_append, List.take_of_length_le (by omega), List.take_append_of_le_length (by omega)]
          have hs0 : s.getD 0 0 = w.getD 0 0 := by
            rw [hs]
            simp only [List.getD]
            rw [List.getElem?_take, if_pos (by omega)]
          have hsc := code_cut hcd hx (s := s) (by omega) (by omega) hs0 (by simp; omega)
          rw [et, hsc]
          have b1 : ((out.length : Int) == cut) = false := by simp; omega
          rw [b1]
          simp only [beq_self_eq_true, cond_true, cond_false]
          rfl
    · rw [h]
      simp only [toE]
      have b1 : (e != 0) = true := by simp [he]
      rw [b1]
      rfl
  · rw [decide_eq_true (by omega)]; rfl
end
end Go.Pv
