/-
  EncodeAll, DecodeAll and Same: what they answer; that one undoes the other.
-/
import Derived.Test.YtidbhhfilhognaaR1All
import Derived.Test.YtidbhhfilhognaaR1EncDec
namespace Go.Pv
open Go.Proofs

noncomputable def gA : GA := ⟨FEnc, FEnc, FDec, FDec⟩
def domIn (x : In) : Prop := 0 ≤ x.1 ∧ x.1 ≤ 255

theorem FEnc_in {x : In} (h : domIn x) : FEnc (x, ()) = some (encA x) := if_pos h

theorem encK_len (q : Nat) (k a b x1 x2 x3 x4 x5 x6 : Int) : (encK q k a b x1 x2 x3 x4 x5 x6).1.length ≤ 7 := by
  unfold encK encN
  (repeat' split) <;> simp
theorem encA_len (x : In) : (encA x).1.length ≤ 7 := by
  unfold encA
  split
  · exact encK_len _ _ _ _ _ _ _ _ _ _
  · simp

/-! ### EncodeAll -/
def eA : List In → List Int → Int → O30 ⊕ T30
  | [], out, _ => .inl (out, ())
  | x :: r, out, i => if (encA x).2.1 = 0 then (if 1024 < out.length + (encA x).1.length then .inr ([], i, 4, ()) else eA r (out ++ (encA x).1) (i + 1)) else .inr ([], i, (encA x).2.1, ())
def toE : O30 ⊕ T30 → T30
  | .inl y => (y.1, 0, 0, ())
  | .inr y => y

theorem getD_in {l : List In} {i : Nat} (h : i < l.length) : l.getD ((i : Int).toNat + 0) tInstr.dflt = l[i] := by simp [List.getD, h]
theorem getD_in' {l : List In} {i : Nat} (h : i < l.length) : l.getD ((i : Int).toNat) tInstr.dflt = l[i] := by simp [List.getD, h]

theorem lim30 {l : List In} (hl : ∀ x ∈ l, domIn x) (hlen : l.length ≤ big) : ∀ (n i : Nat) (out : List Int), i + n = l.length → out.length ≤ 1024 → lim (S30 gA) (l, out, (l.length : Int), (i : Int), ()) = some (eA (l.drop i) out i)
  | 0, i, out, h, _ => by
    refine lim_end ?_
    rw [S30_eq, decide_eq_false (by omega), List.drop_of_length_le (by omega)]; rfl
  | n + 1, i, out, h, ho => by
    have hi : i < l.length := by omega
    have h2 : inRange (i : Int) l.length = true := by simp [inRange]; omega
    have hy := encA_len l[i]
    have hs := S30_eq gA l out (l.length : Int) (i : Int)
    rw [decide_eq_true (by omega), h2, getD_in hi] at hs
    have hf : gA.g12 (l[i], ()) = some (encA l[i]) := FEnc_in (hl _ (List.getElem_mem hi))
    rw [hf] at hs
    simp only [cond_true] at hs
    rw [List.drop_eq_getElem_cons hi]
    simp only [eA]
    generalize encA l[i] = y at *
    have e1 : w64 ((out.length : Int) + (y.1.length : Int)) = (out.length : Int) + (y.1.length : Int) := w64_small (by omega) (by omega)
    have e2 : w64 ((i : Int) + 1) = ((i + 1 : Nat) : Int) := by rw [w64_small (by omega) (by unfold big at hlen; omega)]; omega
    have e3 : decide ((out ++ y.1).length ≤ maxRow) = true := decide_eq_true (by simp [maxRow]; omega)
    unfold st30 at hs
    rw [e1, e2, e3] at hs
    by_cases he : y.2.1 = 0
    · rw [if_pos he]
      have b1 : (y.2.1 == 0) = true := by simp [he]
      have b2 : (y.2.1 != 0) = false := by simp [he]
      rw [b1, b2] at hs
      by_cases hq : 1024 < out.length + y.1.length
      · rw [if_pos hq]
        rw [decide_eq_true (by omega)] at hs
        exact lim_end hs
      · rw [if_neg hq]
        rw [decide_eq_false (by omega)] at hs
        rw [lim_next hs]
        have := lim30 hl hlen n (i + 1) (out ++ y.1) (by omega) (by simp; omega)
        rw [this]; rfl
    · rw [if_neg he]
      have b1 : (y.2.1 == 0) = false := by simp [he]
      have b2 : (y.2.1 != 0) = true := by simp [he]
      rw [b1, b2] at hs
      exact lim_end hs

theorem lim31 {l : List In} (hl : ∀ x ∈ l, domIn x) (hlen : l.length ≤ big) : ∀ (n i : Nat) (out : List Int), i + n = l.length → out.length ≤ 1024 → lim (S31 gA) (l, out, (i : Int), ()) = some (eA (l.drop i) out i)
  | 0, i, out, h, _ => by
    refine lim_end ?_
    rw [S31_eq, decide_eq_false (by omega), List.drop_of_length_le (by omega)]; rfl
  | n + 1, i, out, h, ho => by
    have hi : i < l.length := by omega
    have h2 : inRange (i : Int) l.length = true := by simp [inRange]; omega
    have hy := encA_len l[i]
    have hs := S31_eq gA l out (i : Int)
    rw [decide_eq_true (by omega), h2, getD_in hi] at hs
    have hf : gA.g13 (l[i], ()) = some (encA l[i]) := FEnc_in (hl _ (List.getElem_mem hi))
    rw [hf] at hs
    simp only [cond_true] at hs
    rw [List.drop_eq_getElem_cons hi]
    simp only [eA]
    generalize encA l[i] = y at *
    have e1 : w64 ((out.length : Int) + (y.1.length : Int)) = (out.length : Int) + (y.1.length : Int) := w64_small (by omega) (by omega)
    have e2 : w64 ((i : Int) + 1) = ((i + 1 : Nat) : Int) := by rw [w64_small (by omega) (by unfold big at hlen; omega)]; omega
    have e3 : decide ((out ++ y.1).length ≤ maxRow) = true := decide_eq_true (by simp [maxRow]; omega)
    rw [e1, e2, e3] at hs
    by_cases he : y.2.1 = 0
    · rw [if_pos he]
      have b2 : (y.2.1 != 0) = false := by simp [he]
      rw [b2] at hs
      by_cases hq : 1024 < out.length + y.1.length
      · rw [if_pos hq]
        rw [decide_eq_true (by omega)] at hs
        exact lim_end hs
      · rw [if_neg hq]
        rw [decide_eq_false (by omega)] at hs
        rw [lim_next hs]
        have := lim31 hl hlen n (i + 1) (out ++ y.1) (by omega) (by simp; omega)
        rw [this]; rfl
    · rw [if_neg he]
      have b2 : (y.2.1 != 0) = true := by simp [he]
      rw [b2] at hs
      exact lim_end hs

theorem eval30 {l : List In} (hl : ∀ x ∈ l, domIn x) (hlen : l.length ≤ big) : e30 gA l = some (toE (eA l [] 0)) := by
  rw [e30_eq]
  have h := lim30 hl hlen l.length 0 [] (by omega) (by simp)
  have e0 : ((0 : Nat) : Int) = 0 := rfl
  rw [List.drop_zero, e0] at h
  rw [h]
  cases eA l [] 0 with
  | inl y => rfl
  | inr y => rfl
theorem eval31 {l : List In} (hl : ∀ x ∈ l, domIn x) (hlen : l.length ≤ big) : e31 gA l = some (toE (eA l [] 0)) := by
  rw [e31_eq]
  have h := lim31 hl hlen l.length 0 [] (by omega) (by simp)
  have e0 : ((0 : Nat) : Int) = 0 := rfl
  rw [List.drop_zero, e0] at h
  rw [h]
  cases eA l [] 0 with
  | inl y => rfl
  | inr y => rfl

theorem eA_len : ∀ {r : List In} {out : List Int} {i : Int}, out.length ≤ 1024 → (toE (eA r out i)).1.length ≤ 1024
  | [], out, i, h => h
  | x :: r, out, i, h => by
    simp only [eA]
    split
    · split
      · simp [toE]
      · exact eA_len (by simp; omega)
    · simp [toE]

/-! ### DecodeAll -/
def dA : Nat → List Int → List In → Int → O28 ⊕ T28
  | 0, _, out, _ => .inl (out, ())
  | n + 1, c, out, i => if i < c.length then (match decA c i with
    | none => .inl (out, ())
    | some y => if y.2.2.1 = 0 then dA n c (out ++ [y.1]) y.2.1 else .inr ([], i, y.2.2.1, ())) else .inl (out, ())
def toD : O28 ⊕ T28 → T28
  | .inl y => (y.1, 0, 0, ())
  | .inr y => y

theorem decA_go {c : List Int} (hc : Words c) {i : Int} {y : In × Int × Int × Unit} (h : decA c i = some y) (he : y.2.2.1 = 0) : 0 ≤ i ∧ Decd c i.toNat y.1 y.2.1 := by
  obtain ⟨x, nx, e, ⟨⟩⟩ := y
  simp only at he
  subst he
  exact dec_enc hc h

theorem st28_in {c : List Int} (hc : inOK c) (hlen : c.length ≤ 1024) {out : List In} {i : Int} (h0 : 0 ≤ i) (ho : (out.length : Int) ≤ i) (hlt : i < c.length) {y : In × Int × Int × Unit} (hy : decA c i = some y) :
    st28 FDec c out i = if y.2.2.1 = 0 then some (.inl (c, out ++ [y.1], y.2.1, ())) else some (.inr (.inr ([], i, y.2.2.1, ()))) := by
  unfold st28
  rw [decide_eq_true hlt, FDec_in hc, hy]
  have e3 : decide ((out ++ [y.1]).length ≤ maxRow) = true := decide_eq_true (by simp [maxRow]; omega)
  simp only [cond_true, e3]
  by_cases he : y.2.2.1 = 0
  · have b2 : (y.2.2.1 != 0) = false := by simp [he]
    rw [if_pos he, b2]; rfl
  · have b2 : (y.2.2.1 != 0) = true := by simp [he]
    rw [if_neg he, b2]; rfl

theorem limD {S : X28 → Option (X28 ⊕ (O28 ⊕ T28))} (hS : ∀ c out i, S (c, out, i, ()) = st28 FDec c out i) {c : List Int} (hc : inOK c) (hlen : c.length ≤ 1024) :
    ∀ (n : Nat) (out : List In) (i : Int), 0 ≤ i → (out.length : Int) ≤ i → (c.length : Int) + 1 - i ≤ n → i ≤ c.length → lim S (c, out, i, ()) = some (dA n c out i)
  | 0, out, i, h0, ho, hn, hi => by omega
  | n + 1, out, i, h0, ho, hn, hi => by
    by_cases hlt : i < c.length
    · obtain ⟨y, hy⟩ := decA_some c i
      have hs := (hS c out i).trans (st28_in hc hlen h0 ho hlt hy)
      simp only [dA, if_pos hlt, hy]
      by_cases he : y.2.2.1 = 0
      · rw [if_pos he] at hs ⊢
        obtain ⟨_, d⟩ := decA_go hc.1 hy he
        have d1 := d.lo; have d2 := d.hi
        rw [lim_next hs]
        exact limD hS hc hlen n (out ++ [y.1]) y.2.1 (by omega) (by simp; omega) (by omega) d2
      · rw [if_neg he] at hs ⊢
        exact lim_end hs
    · simp only [dA, if_neg hlt]
      refine lim_end ((hS c out i).trans ?_)
      unfold st28
      rw [decide_eq_false hlt]; rfl

def decAll' (c : List Int) : T28 := if 1024 < c.length then ([], 0, 4, ()) else toD (dA (c.length + 1) c [] 0)

theorem eval28 {c : List Int} (hc : inOK c) : e28 gA c = some (decAll' c) := by
  rw [e28_eq]
  unfold decAll'
  by_cases h : 1024 < c.length
  · rw [if_pos h, decide_eq_true (by omega)]; rfl
  · rw [if_neg h, decide_eq_false (by omega), cond_false]
    have := limD (S := S28 gA) (fun c out i => S28_eq gA c out i) hc (by omega) (c.length + 1) [] 0 (by omega) (by simp) (by omega) (by omega)
    rw [this]
    cases dA (c.length + 1) c [] 0 with
    | inl y => rfl
    | inr y => rfl
theorem eval32 {c : List Int} (hc : inOK c) : e32 gA c = some (decAll' c) := by
  rw [e32_eq]
  unfold decAll'
  by_cases h : 1024 < c.length
  · rw [if_pos h, decide_eq_true (by omega)]; rfl
  · rw [if_neg h, decide_eq_false (by omega), cond_false]
    have := limD (S := S32 gA) (fun c out i => S32_eq gA c out i) hc (by omega) (c.length + 1) [] 0 (by omega) (by simp) (by omega) (by omega)
    rw [this]
    cases dA (c.length + 1) c [] 0 with
    | inl y => rfl
    | inr y => rfl

theorem dA_len {c : List Int} (hc : Words c) : ∀ {n : Nat} {out : List In} {i : Int}, (out.length : Int) ≤ i → i ≤ c.length → (toD (dA n c out i)).1.length ≤ c.length
  | 0, out, i, h1, h2 => by simp only [dA, toD]; omega
  | n + 1, out, i, h1, h2 => by
    simp only [dA]
    split
    · split
      · simp only [toD]; omega
      · rename_i y hy
        split
        · rename_i he
          obtain ⟨_, d⟩ := decA_go hc hy he
          have d1 := d.lo; have d2 := d.hi
          exact dA_len hc (by simp; omega) d2
        · simp [toD]
    · simp only [toD]; omega
theorem decAll_len {c : List Int} (hc : Words c) : (decAll' c).1.length ≤ 1024 := by
  unfold decAll'
  split
  · simp
  · have := dA_len hc (n := c.length + 1) (out := []) (i := 0) (by simp) (by omega)
    omega

/-! ### Same -/
theorem same29_loop (l : List In) (hl : l.length ≤ 1000000000) : ∀ (n i : Nat), i + n = l.length → lim S29 (l, l, (i : Int), ()) = some (.inl ())
  | 0, i, h => by
    refine lim_end ?_
    rw [S29_eq, decide_eq_false (by omega)]; rfl
  | n + 1, i, h => by
    have hi : i < l.length := by omega
    have h2 : inRange (i : Int) l.length = true := by simp [inRange]; omega
    have hs : S29 (l, l, (i : Int), ()) = some (.inl (l, l, ((i + 1 : Nat) : Int), ())) := by
      rw [S29_eq, decide_eq_true (by omega), h2, small_wrap (by omega) (by omega), eqIn_self]
      rfl
    rw [lim_next hs]
    exact same29_loop l hl n (i + 1) (by omega)
theorem same29 (l : List In) (hl : l.length ≤ 1000000000) : e29 (l, l, ()) = some (true, ()) := by
  rw [e29_eq]
  have h := same29_loop l hl l.length 0 (by omega)
  have e0 : ((0 : Nat) : Int) = 0 := rfl
  rw [e0] at h
  rw [h]
  simp
theorem fn29 : FnOK Try.prog 29 sSame [.val .bool] e29 := fnOK call0_ok fun _ _ h => h

/-! ### What code stands for -/
inductive Code1 : List In → List Int → Prop
  | nil : Code1 [] []
  | snoc {l : List In} {c : List Int} {x : In} {w : List Int} (h : Code1 l c) (hx : encA x = (w, 0, ())) : Code1 (l ++ [x]) (c ++ w)

theorem Code1.le {l : List In} {c : List Int} (h : Code1 l c) : l.length ≤ c.length := by
  induction h with
  | nil => simp
  | snoc h hx ih =>
    have := (enc_dec hx [] []).1.2.1
    simp; omega

/-- what EncodeAll returns -/
theorem eA_code : ∀ {r : List In} {out : List Int} {i : Int} {a : List Int} {l : List In}, eA r out i = .inl (a, ()) → Code1 l out → Code1 (l ++ r) a
  | [], out, i, a, l, h, hc => by
    simp only [eA, Sum.inl.injEq, Prod.mk.injEq, and_true] at h
    subst h; simpa using hc
  | x :: r, out, i, a, l, h, hc => by
    simp only [eA] at h
    split at h
    · rename_i he
      split at h
      · cases h
      · have hx : encA x = ((encA x).1, 0, ()) := by
          have : encA x = ((encA x).1, (encA x).2.1, ()) := rfl
          rw [he] at this; exact this
        have := eA_code h (hc.snoc hx)
        simpa using this
    · cases h

/-- decoding passes over code -/
theorem code_dA {l : List In} {c : List Int} (h : Code1 l c) : ∀ (t : List Int) (fuel : Nat), dA (l.length + fuel) (c ++ t) [] 0 = dA fuel (c ++ t) l c.length := by
  induction h with
  | nil => intro t fuel; simp
  | snoc h hx ih =>
    rename_i l c x w
    intro t fuel
    obtain ⟨⟨_, h1, _⟩, h2⟩ := enc_dec hx c t
    have e1 : (l ++ [x]).length + fuel = l.length + (fuel + 1) := by simp; omega
    rw [e1, List.append_assoc, ih (w ++ t) (fuel + 1)]
    simp only [dA]
    rw [if_pos (by simp; omega), h2]
    simp

theorem dA_end {c : List Int} {out : List In} {n : Nat} : dA n c out c.length = .inl (out, ()) := by
  cases n with
  | zero => rfl
  | succ n => simp only [dA]; rw [if_neg (by omega)]

theorem code_decAll {l : List In} {c : List Int} (h : Code1 l c) (hlen : c.length ≤ 1024) : decAll' c = (l, 0, 0, ()) := by
  unfold decAll'
  rw [if_neg (by omega)]
  have hle := h.le
  have := code_dA h [] (c.length + 1 - l.length)
  rw [List.append_nil] at this
  have e : l.length + (c.length + 1 - l.length) = c.length + 1 := by omega
  rw [e, dA_end] at this
  rw [this]; rfl

/-- a cut instruction -/
theorem code_cut {l : List In} {c : List Int} (h : Code1 l c) {x : In} {w s : List Int} (hx : encA x = (w, 0, ())) (hs : 0 < s.length) (hlt : s.length < w.length) (hw : s.getD 0 0 = w.getD 0 0) (hlen : (c ++ s).length ≤ 1024) :
    decAll' (c ++ s) = ([], (c.length : Int), 9, ()) := by
  unfold decAll'
  rw [if_neg (by omega)]
  have hle := h.le
  have := code_dA h s ((c ++ s).length + 1 - l.length)
  have e : l.length + ((c ++ s).length + 1 - l.length) = (c ++ s).length + 1 := by simp; omega
  rw [e] at this
  rw [this]
  obtain ⟨m, hm⟩ : ∃ m, (c ++ s).length + 1 - l.length = m + 1 := ⟨(c ++ s).length - l.length, by simp; omega⟩
  rw [hm]
  simp only [dA]
  rw [if_pos (by simp; omega), dec_short hx c s hs hlt hw]
  rfl

/-- what DecodeAll returns is encoded as the code -/
theorem dA_eA {c : List Int} (hc : Words c) (hlen : c.length ≤ 1024) : ∀ {n : Nat} {out : List In} {i : Nat} {d : List In}, (c.length : Int) + 1 - i ≤ n → i ≤ c.length → dA n c out i = .inl (d, ()) →
    ∃ r, d = out ++ r ∧ (∀ x ∈ r, domIn x) ∧ ∀ j, eA r (c.take i) j = .inl (c, ())
  | 0, out, i, d, hn, hi, h => by omega
  | n + 1, out, i, d, hn, hi, h => by
    simp only [dA] at h
    split at h
    · rename_i hlt
      split at h
      · rename_i hy
        obtain ⟨y, hy'⟩ := decA_some c i
        rw [hy] at hy'; cases hy'
      · rename_i y hy
        split at h
        · rename_i he
          obtain ⟨_, q⟩ := decA_go hc hy he
          have q1 := q.lo; have q2 := q.hi; have q3 := q.enc; have q5 := q.known
          have e0 : (i : Int).toNat = i := by omega
          rw [e0] at q1 q3
          obtain ⟨nx, hnx⟩ : ∃ nx : Nat, y.2.1 = nx := ⟨y.2.1.toNat, by omega⟩
          rw [hnx] at q1 q2 q3 h
          have e1 : (nx : Int).toNat - i = nx - i := by omega
          rw [e1] at q3
          obtain ⟨r, r1, r2, r3⟩ := dA_eA (i := nx) hc hlen (by omega) (by omega) h
          refine ⟨y.1 :: r, by rw [r1]; simp, fun x hx => ?_, fun j => ?_⟩
          · rcases List.mem_cons.1 hx with rfl | hx
            · exact ⟨Int.le_trans (by decide) q5.1, Int.le_trans q5.2 (by decide)⟩
            · exact r2 x hx
          · simp only [eA, q3, if_true]
            have e2 : (c.take i).length = i := by simp; omega
            have e3 : ((c.drop i).take (nx - i)).length = nx - i := by simp; omega
            rw [e2, e3, if_neg (by omega)]
            have e4 : c.take i ++ (c.drop i).take (nx - i) = c.take nx := by
              have : nx = i + (nx - i) := by omega
              conv => rhs; rw [this]
              rw [List.take_add]
            rw [e4]
            exact r3 (j + 1)
        · cases h
    · rename_i hge
      simp only [Sum.inl.injEq, Prod.mk.injEq, and_true] at h
      subst h
      refine ⟨[], by simp, by simp, fun j => ?_⟩
      simp only [eA, Sum.inl.injEq, Prod.mk.injEq, and_true]
      exact List.take_of_length_le (by omega)
end Go.Pv
