/-
  Plain laws of codes: what is encoded is decoded, what is decoded is encoded.
-/
import Derived.Test.YtidbhhfilhognaaR1EncSem
namespace Go.Pv
open Go.Proofs

abbrev mk (k a b x1 x2 x3 x4 x5 x6 : Int) : tInstr.den := (k, a, b, (x1, x2), (x3, x4), (x5, x6))
/-- an instruction's numbers fit -/
def InOK (x : tInstr.den) : Prop := TyOk' x
where TyOk' : tInstr.den → Prop := fun x => (0 ≤ x.1 ∧ x.1 ≤ 255) ∧ (0 ≤ x.2.2.2.1.1 ∧ x.2.2.2.1.1 ≤ 65535) ∧ (0 ≤ x.2.2.2.1.2 ∧ x.2.2.2.1.2 ≤ 65535) ∧ (0 ≤ x.2.2.2.2.1.1 ∧ x.2.2.2.2.1.1 ≤ 65535) ∧
  (0 ≤ x.2.2.2.2.1.2 ∧ x.2.2.2.2.1.2 ≤ 65535) ∧ (0 ≤ x.2.2.2.2.2.1 ∧ x.2.2.2.2.2.1 ≤ 65535) ∧ (0 ≤ x.2.2.2.2.2.2 ∧ x.2.2.2.2.2.2 ≤ 65535)

/-! ### Words of a list -/
theorem wd_nat (c : List Int) (n : Nat) : wd c (n : Int) = c.getD n 0 := by simp [wd]
theorem getD_r (p t : List Int) (j : Nat) : (p ++ t).getD (p.length + j) 0 = t.getD j 0 := by
  simp [List.getD, List.getElem?_append_right]
theorem getD_l {ws : List Int} (t : List Int) {j : Nat} (h : j < ws.length) : (ws ++ t).getD j 0 = ws.getD j 0 := by
  simp [List.getD, List.getElem?_append_left h]
theorem wd_app (p t : List Int) (j : Nat) : wd (p ++ t) ((p.length : Int) + j) = t.getD j 0 := by
  have : ((p.length : Int) + j).toNat = p.length + j := by omega
  unfold wd
  rw [this, getD_r]
theorem wd0 (p t : List Int) : wd (p ++ t) (p.length : Int) = t.getD 0 0 := by simpa using wd_app p t 0
theorem wd1 (p t : List Int) : wd (p ++ t) ((p.length : Int) + 1) = t.getD 1 0 := wd_app p t 1
theorem wd2 (p t : List Int) : wd (p ++ t) ((p.length : Int) + 2) = t.getD 2 0 := wd_app p t 2
theorem wd3 (p t : List Int) : wd (p ++ t) ((p.length : Int) + 3) = t.getD 3 0 := wd_app p t 3
theorem wd4 (p t : List Int) : wd (p ++ t) ((p.length : Int) + 4) = t.getD 4 0 := wd_app p t 4
theorem wd5 (p t : List Int) : wd (p ++ t) ((p.length : Int) + 5) = t.getD 5 0 := wd_app p t 5
theorem wd6 (p t : List Int) : wd (p ++ t) ((p.length : Int) + 6) = t.getD 6 0 := wd_app p t 6

theorem mean_nw {q : Nat} {low high n : Int} (hb : KB (q : Int) low high) (h : low ≤ n ∧ n ≤ high) : mean q low high (nw n) = some n := by
  unfold mean nw
  rcases hb with ⟨h1, rfl, rfl⟩ | ⟨h1, rfl, rfl⟩ | ⟨h1, rfl, rfl⟩ | ⟨h1, rfl, rfl⟩ | ⟨h1, rfl, rfl⟩ <;> rw [h1] <;> (repeat' split) <;> first
    | rfl
    | (exfalso; omega)
    | (congr 1; omega)

theorem nw_mean {q : Nat} {low high n w : Int} (hb : KB (q : Int) low high) (hw : 0 ≤ w ∧ w ≤ 65535) (h : mean q low high w = some n) : nw n = w ∧ low ≤ n ∧ n ≤ high := by
  unfold mean at h
  unfold nw
  rcases hb with ⟨h1, rfl, rfl⟩ | ⟨h1, rfl, rfl⟩ | ⟨h1, rfl, rfl⟩ | ⟨h1, rfl, rfl⟩ | ⟨h1, rfl, rfl⟩ <;> rw [h1] at h <;> (repeat' split at h) <;> first
    | (cases h; done)
    | (simp only [Option.some.injEq] at h; subst h; refine ⟨?_, by omega, by omega⟩; split <;> omega)

theorem KB_of {q : Nat} (h1 : 1 ≤ q) (h2 : q ≤ 4) : KB (q : Int) (lows.getD q 0) (highs.getD q 0) := by
  match q, h1, h2 with
  | 1, _, _ => exact .inl ⟨rfl, rfl, rfl⟩
  | 2, _, _ => exact .inr (.inl ⟨rfl, rfl, rfl⟩)
  | 3, _, _ => exact .inr (.inr (.inl ⟨rfl, rfl, rfl⟩))
  | 4, _, _ => exact .inr (.inr (.inr (.inl ⟨rfl, rfl, rfl⟩)))

/-! ### Encoding, then decoding -/
/-- how many words -/
def LenOK (q : Nat) (k : Int) (ws : List Int) : Prop := (ws.length : Int) = lenOfK q ∧ ws.getD 0 0 = k

theorem encN_dec {q : Nat} {low high : Int} (hb : KB (q : Int) low high) (hl : lenOfK q = 2) {k a b x1 x2 x3 x4 x5 x6 : Int} {ws : List Int} (h : encN low high k a b x1 x2 x3 x4 x5 x6 = (ws, 0, ())) (p t : List Int) :
    LenOK q k ws ∧ numD q low high (p ++ (ws ++ t)) p.length k = some (mk k a b x1 x2 x3 x4 x5 x6, (p.length : Int) + ws.length, 0, ()) := by
  unfold encN at h
  split at h
  · rename_i hz
    split at h
    · rename_i ha
      simp only [Prod.mk.injEq, and_true] at h
      subst h
      obtain ⟨rfl, rfl, rfl, rfl, rfl, rfl, rfl⟩ := hz
      refine ⟨⟨by rw [hl]; rfl, rfl⟩, ?_⟩
      unfold numD
      rw [wd1]
      have : ([k, nw a] ++ t).getD 1 0 = nw a := rfl
      rw [this, mean_nw hb ha]
      rfl
    · cases h
  · cases h

theorem encK_dec {q : Nat} (hq : q < 8) {k a b x1 x2 x3 x4 x5 x6 : Int} {ws : List Int} (h : encK q k a b x1 x2 x3 x4 x5 x6 = (ws, 0, ())) (p t : List Int) :
    LenOK q k ws ∧ decK q (p ++ (ws ++ t)) p.length k = some (mk k a b x1 x2 x3 x4 x5 x6, (p.length : Int) + ws.length, 0, ()) := by
  match q, hq with
  | 0, _ =>
    simp only [encK] at h
    split at h
    · rename_i hz
      simp only [Prod.mk.injEq, and_true] at h
      subst h
      obtain ⟨rfl, rfl, rfl, rfl, rfl, rfl, rfl, rfl⟩ := hz
      exact ⟨⟨rfl, rfl⟩, rfl⟩
    · cases h
  | 1, _ => exact encN_dec (q := 1) (.inl ⟨rfl, rfl, rfl⟩) rfl h p t
  | 2, _ => exact encN_dec (q := 2) (.inr (.inl ⟨rfl, rfl, rfl⟩)) rfl h p t
  | 3, _ => exact encN_dec (q := 3) (.inr (.inr (.inl ⟨rfl, rfl, rfl⟩))) rfl h p t
  | 4, _ => exact encN_dec (q := 4) (.inr (.inr (.inr (.inl ⟨rfl, rfl, rfl⟩)))) rfl h p t
  | 5, _ =>
    simp only [encK] at h
    split at h
    · rename_i hz
      split at h
      · rename_i ha
        simp only [Prod.mk.injEq, and_true] at h
        subst h
        obtain ⟨rfl, rfl, rfl, rfl, rfl, rfl⟩ := hz
        refine ⟨⟨rfl, rfl⟩, ?_⟩
        simp only [decK]
        rw [wd1, wd2]
        have e1 : ([k, nw a, nw b] ++ t).getD 1 0 = nw a := rfl
        have e2 : ([k, nw a, nw b] ++ t).getD 2 0 = nw b := rfl
        have kb : KB ((5 : Nat) : Int) 0 31 := .inr (.inr (.inr (.inr ⟨rfl, rfl, rfl⟩)))
        have m1 : mean 5 0 31 (nw a) = some a := mean_nw (q := 5) kb ha.1
        have m2 : mean 5 0 31 (nw b) = some b := mean_nw (q := 5) kb ha.2
        rw [e1, e2, m1, m2]
        rfl
      · cases h
    · cases h
  | 6, _ =>
    simp only [encK] at h
    split at h
    · rename_i hz
      split at h
      · rename_i ha
        simp only [Prod.mk.injEq, and_true] at h
        subst h
        obtain ⟨rfl, rfl, _, _, rfl, rfl, rfl, rfl⟩ := hz
        refine ⟨⟨rfl, rfl⟩, ?_⟩
        simp only [decK]
        rw [wd1, wd2]
        have e1 : ([k, x1, x2] ++ t).getD 1 0 = x1 := rfl
        have e2 : ([k, x1, x2] ++ t).getD 2 0 = x2 := rfl
        rw [e1, e2, if_pos ha]
        rfl
      · cases h
    · cases h
  | 7, _ =>
    simp only [encK] at h
    split at h
    · rename_i hz
      split at h
      · rename_i ha
        simp only [Prod.mk.injEq, and_true] at h
        subst h
        obtain ⟨rfl, rfl⟩ := hz
        refine ⟨⟨rfl, rfl⟩, ?_⟩
        simp only [decK]
        rw [wd1, wd2, wd3, wd4, wd5, wd6]
        have e1 : ([k, x1, x2, x3, x4, x5, x6] ++ t).getD 1 0 = x1 := rfl
        have e2 : ([k, x1, x2, x3, x4, x5, x6] ++ t).getD 2 0 = x2 := rfl
        have e3 : ([k, x1, x2, x3, x4, x5, x6] ++ t).getD 3 0 = x3 := rfl
        have e4 : ([k, x1, x2, x3, x4, x5, x6] ++ t).getD 4 0 = x4 := rfl
        have e5 : ([k, x1, x2, x3, x4, x5, x6] ++ t).getD 5 0 = x5 := rfl
        have e6 : ([k, x1, x2, x3, x4, x5, x6] ++ t).getD 6 0 = x6 := rfl
        rw [e1, e2, e3, e4, e5, e6, if_pos ha]
        rfl
      · cases h
    · cases h
  | q + 8, hlt => omega

theorem encA_known {x : tInstr.den} {ws : List Int} (h : encA x = (ws, 0, ())) : 1 ≤ x.1 ∧ x.1 ≤ 38 := by
  by_cases c : 1 ≤ x.1 ∧ x.1 ≤ 38
  · exact c
  · unfold encA at h; rw [if_neg c] at h; cases h

theorem enc_dec {x : tInstr.den} {ws : List Int} (h : encA x = (ws, 0, ())) (p t : List Int) :
    ((ws.length : Int) = lenOfK (kindOf x.1) ∧ 1 ≤ ws.length ∧ ws.length ≤ 7) ∧ decA (p ++ (ws ++ t)) p.length = some (x, (p.length : Int) + ws.length, 0, ()) := by
  have hk := encA_known h
  obtain ⟨k, a, b, ⟨x1, x2⟩, ⟨x3, x4⟩, x5, x6⟩ := x
  change 1 ≤ k ∧ k ≤ 38 at hk
  have h' : encK (kindOf k) k a b x1 x2 x3 x4 x5 x6 = (ws, 0, ()) := (encA_in hk.1 hk.2).symm.trans h
  have hlt := kind_lt hk.1 hk.2
  obtain ⟨⟨e1, e2⟩, e3⟩ := encK_dec hlt h' p t
  show ((ws.length : Int) = lenOfK (kindOf k) ∧ 1 ≤ ws.length ∧ ws.length ≤ 7) ∧ _
  have hl : 1 ≤ lenOfK (kindOf k) ∧ lenOfK (kindOf k) ≤ 7 := by
    have : ∀ q, q < 8 → 1 ≤ lenOfK q ∧ lenOfK q ≤ 7 := by decide
    exact this _ hlt
  refine ⟨⟨e1, by omega, by omega⟩, ?_⟩
  have ew : wd (p ++ (ws ++ t)) p.length = k := by
    rw [wd0, getD_l _ (by omega)]; exact e2
  have w1 : (1 : Int) ≤ wd (p ++ (ws ++ t)) p.length := by rw [ew]; exact hk.1
  have w2 : wd (p ++ (ws ++ t)) p.length ≤ (38 : Int) := by rw [ew]; exact hk.2
  unfold decA
  rw [if_neg (by simp; omega), if_neg (by omega), ew, if_neg (by simp; omega)]
  exact e3

/-! ### A code that is cut -/
theorem dec_short {x : tInstr.den} {ws : List Int} (h : encA x = (ws, 0, ())) (p s : List Int) (hs : 0 < s.length) (hlt : s.length < ws.length) (hw : s.getD 0 0 = ws.getD 0 0) : decA (p ++ s) p.length = some ((0, 0, 0, (0, 0), (0, 0), (0, 0)), 0, 9, ()) := by
  have hk := encA_known h
  obtain ⟨k, a, b, ⟨x1, x2⟩, ⟨x3, x4⟩, x5, x6⟩ := x
  change 1 ≤ k ∧ k ≤ 38 at hk
  have h' : encK (kindOf k) k a b x1 x2 x3 x4 x5 x6 = (ws, 0, ()) := (encA_in hk.1 hk.2).symm.trans h
  obtain ⟨⟨e1, e2⟩, _⟩ := encK_dec (kind_lt hk.1 hk.2) h' p []
  have ew : wd (p ++ s) p.length = k := by rw [wd0, hw]; exact e2
  have w1 : (1 : Int) ≤ wd (p ++ s) p.length := by rw [ew]; exact hk.1
  have w2 : wd (p ++ s) p.length ≤ (38 : Int) := by rw [ew]; exact hk.2
  unfold decA
  rw [if_neg (by simp; omega), if_neg (by omega), ew, if_pos (by simp; omega)]
  rfl

/-! ### Decoding, then encoding -/
theorem seg (c : List Int) (i m : Nat) (h : i + m ≤ c.length) : (c.drop i).take m = (List.range m).map fun j => c.getD (i + j) 0 := by
  apply List.ext_getElem?
  intro j
  rw [List.getElem?_take, List.getElem?_map]
  split
  · rename_i hj
    rw [List.getElem?_range hj, List.getElem?_drop]
    have : i + j < c.length := by omega
    simp [List.getD, this]
  · rename_i hj
    rw [List.getElem?_eq_none (by simpa using Nat.not_lt.1 hj)]; rfl

theorem er_ne {e : Int} {x : tInstr.den} {nx : Int} (he : e ≠ 0) (h : er e = some (x, nx, 0, ())) : False := by
  unfold er at h
  simp only [Option.some.injEq, Prod.mk.injEq] at h
  exact he h.2.2.1

/-- what decoding leads to -/
structure Decd (c : List Int) (i : Nat) (x : tInstr.den) (nx : Int) : Prop where
  enc : encA x = ((c.drop i).take (nx.toNat - i), 0, ())
  lo : (i : Int) < nx
  hi : nx ≤ c.length
  small : nx - i ≤ 7
  known : 1 ≤ x.1 ∧ x.1 ≤ 38

theorem decd_of {c : List Int} {i m : Nat} {x : tInstr.den} {nx : Int} (hnx : nx = (i : Int) + m) (h0 : 0 < m) (h7 : m ≤ 7) (hle : i + m ≤ c.length) (hk : 1 ≤ x.1 ∧ x.1 ≤ 38) {ws : List Int} (hws : ws = (List.range m).map fun (j : Nat) => wd c ((i : Int) + (j : Int)))
    (he : encK (kindOf x.1) x.1 x.2.1 x.2.2.1 x.2.2.2.1.1 x.2.2.2.1.2 x.2.2.2.2.1.1 x.2.2.2.2.1.2 x.2.2.2.2.2.1 x.2.2.2.2.2.2 = (ws, 0, ())) : Decd c i x nx := by
  refine ⟨?_, by omega, by omega, by omega, hk⟩
  unfold encA
  rw [if_pos hk, he, hws]
  have : nx.toNat - i = m := by omega
  rw [this, seg c i m hle]
  congr 1

theorem numD_dec {q : Nat} {low high : Int} (hb : KB (q : Int) low high) {c : List Int} (hc : Words c) {i : Nat} {x : tInstr.den} {nx : Int} (h : numD q low high c i (wd c i) = some (x, nx, 0, ())) :
    ∃ n, x = mk (wd c i) n 0 0 0 0 0 0 0 ∧ nx = (i : Int) + (2 : Nat) ∧ encN low high (wd c i) n 0 0 0 0 0 0 0 = ([wd c i, wd c ((i : Int) + 1)], 0, ()) := by
  unfold numD at h
  split at h
  · rename_i n hm
    simp only [Option.some.injEq, Prod.mk.injEq, and_true] at h
    obtain ⟨rfl, rfl⟩ := h
    obtain ⟨e1, e2⟩ := nw_mean hb (wd_nonneg hc _) hm
    refine ⟨n, rfl, rfl, ?_⟩
    unfold encN
    rw [if_pos (by simp), if_pos e2, e1]
  · exact (er_ne (by decide) h).elim

theorem dec_enc {c : List Int} (hc : Words c) {i : Int} {x : tInstr.den} {nx : Int} (h : decA c i = some (x, nx, 0, ())) : 0 ≤ i ∧ Decd c i.toNat x nx := by
  unfold decA at h
  split at h
  · exact (er_ne (by decide) h).elim
  · rename_i h1
    split at h
    · exact (er_ne (by decide) h).elim
    · rename_i h2
      split at h
      · exact (er_ne (by decide) h).elim
      · rename_i h3
        obtain ⟨n, rfl⟩ : ∃ n : Nat, i = n := ⟨i.toNat, by omega⟩
        have hk : 1 ≤ wd c n ∧ wd c n ≤ 38 := by omega
        have hlt := kind_lt hk.1 hk.2
        refine ⟨by omega, ?_⟩
        show Decd c n x nx
        generalize hq : kindOf (wd c n) = q at *
        have numc : ∀ (q : Nat) (low high : Int), KB (q : Int) low high → kindOf (wd c n) = q → lenOfK q = 2 → ¬ ((c.length : Int) - n < lenOfK q) → (∀ k a b x1 x2 x3 x4 x5 x6, encK q k a b x1 x2 x3 x4 x5 x6 = encN low high k a b x1 x2 x3 x4 x5 x6) →
            numD q low high c n (wd c n) = some (x, nx, 0, ()) → Decd c n x nx := by
          intro q low high hb hq hl h3 he h
          obtain ⟨m, rfl, e2, e3⟩ := numD_dec hb hc h
          refine decd_of (m := 2) e2 (by omega) (by omega) (by omega) hk (ws := [wd c n, wd c ((n : Int) + 1)]) (by simp [List.range, List.range.loop]) ?_
          show encK (kindOf (wd c n)) (wd c n) m 0 0 0 0 0 0 0 = _
          rw [hq, he]; exact e3
        match q, hlt with
        | 0, _ =>
          simp only [decK, Option.some.injEq, Prod.mk.injEq, and_true] at h
          obtain ⟨rfl, rfl⟩ := h
          have h3' : ¬ ((c.length : Int) - n < 1) := h3
          refine decd_of (m := 1) rfl (by omega) (by omega) (by omega) hk (ws := [wd c n]) (by simp [List.range, List.range.loop]) ?_
          show encK (kindOf (wd c n)) (wd c n) 0 0 0 0 0 0 0 0 = _
          rw [hq]; rfl
        | 1, _ => exact numc 1 0 2047 (.inl ⟨rfl, rfl, rfl⟩) hq rfl h3 (fun _ _ _ _ _ _ _ _ _ => rfl) h
        | 2, _ => exact numc 2 (-56) 56 (.inr (.inl ⟨rfl, rfl, rfl⟩)) hq rfl h3 (fun _ _ _ _ _ _ _ _ _ => rfl) h
        | 3, _ => exact numc 3 0 2 (.inr (.inr (.inl ⟨rfl, rfl, rfl⟩))) hq rfl h3 (fun _ _ _ _ _ _ _ _ _ => rfl) h
        | 4, _ => exact numc 4 0 31 (.inr (.inr (.inr (.inl ⟨rfl, rfl, rfl⟩)))) hq rfl h3 (fun _ _ _ _ _ _ _ _ _ => rfl) h
        | 5, _ =>
          simp only [decK] at h
          have h3' : ¬ ((c.length : Int) - n < 3) := h3
          have kb : KB ((5 : Nat) : Int) 0 31 := .inr (.inr (.inr (.inr ⟨rfl, rfl, rfl⟩)))
          split at h
          · rename_i m1 hm1
            split at h
            · rename_i m2 hm2
              simp only [Option.some.injEq, Prod.mk.injEq, and_true] at h
              obtain ⟨rfl, rfl⟩ := h
              obtain ⟨a1, a2⟩ := nw_mean (q := 5) kb (wd_nonneg hc _) hm1
              obtain ⟨b1, b2⟩ := nw_mean (q := 5) kb (wd_nonneg hc _) hm2
              refine decd_of (m := 3) rfl (by omega) (by omega) (by omega) hk (ws := [wd c n, wd c ((n : Int) + 1), wd c ((n : Int) + 2)]) (by simp [List.range, List.range.loop]) ?_
              show encK (kindOf (wd c n)) (wd c n) m1 m2 0 0 0 0 0 0 = _
              rw [hq]
              simp only [encK]
              rw [if_pos (by simp), if_pos ⟨a2, b2⟩, a1, b1]
            · exact (er_ne (by decide) h).elim
          · exact (er_ne (by decide) h).elim
        | 6, _ =>
          simp only [decK] at h
          have h3' : ¬ ((c.length : Int) - n < 3) := h3
          split at h
          · rename_i ha
            simp only [Option.some.injEq, Prod.mk.injEq, and_true] at h
            obtain ⟨rfl, rfl⟩ := h
            refine decd_of (m := 3) rfl (by omega) (by omega) (by omega) hk (ws := [wd c n, wd c ((n : Int) + 1), wd c ((n : Int) + 2)]) (by simp [List.range, List.range.loop]) ?_
            show encK (kindOf (wd c n)) (wd c n) 0 0 (wd c ((n : Int) + 1)) (wd c ((n : Int) + 2)) 0 0 0 0 = _
            rw [hq]
            simp only [encK]
            rw [if_pos (by simp), if_pos ha]
          · exact (er_ne (by decide) h).elim
        | 7, _ =>
          simp only [decK] at h
          have h3' : ¬ ((c.length : Int) - n < 7) := h3
          split at h
          · rename_i ha
            simp only [Option.some.injEq, Prod.mk.injEq, and_true] at h
            obtain ⟨rfl, rfl⟩ := h
            refine decd_of (m := 7) rfl (by omega) (by omega) (by omega) hk (ws := [wd c n, wd c ((n : Int) + 1), wd c ((n : Int) + 2), wd c ((n : Int) + 3), wd c ((n : Int) + 4), wd c ((n : Int) + 5), wd c ((n : Int) + 6)]) (by simp [List.range, List.range.loop]) ?_
            show encK (kindOf (wd c n)) (wd c n) 0 0 (wd c ((n : Int) + 1)) (wd c ((n : Int) + 2)) (wd c ((n : Int) + 3)) (wd c ((n : Int) + 4)) (wd c ((n : Int) + 5)) (wd c ((n : Int) + 6)) = _
            rw [hq]
            simp only [encK]
            rw [if_pos (by simp), if_pos ha]
          · exact (er_ne (by decide) h).elim
        | q + 8, hlt => omega
end Go.Pv
