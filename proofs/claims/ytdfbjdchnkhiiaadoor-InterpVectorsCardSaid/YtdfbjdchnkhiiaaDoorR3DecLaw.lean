/-
  Decode: the program's and the reference's answer alike, whatever the words and the index.
-/
import Derived.Test.YtdfbjdchnkhiiaaDoorR3Dec
import Derived.Test.YtdfbjdchnkhiiaaDoorR3Same
namespace Go.Pv
open Go.Proofs

/-- words -/
def Words (l : List Int) : Prop := ∀ w ∈ l, 0 ≤ w ∧ w ≤ 65535
abbrev big : Nat := 9223372036854775807

theorem w64_small {k : Int} (h1 : -9000000000000000000 ≤ k) (h2 : k ≤ 9223372036854775807) : w64 k = k := by
  unfold w64 IntKind.wrap IntKind.bits IntKind.signed
  simp only [Bool.true_and]
  have e : (2 : Int) ^ 64 = 18446744073709551616 := by decide
  have e2 : (2 : Int) ^ (64 - 1) = 9223372036854775808 := by decide
  rw [e, e2]
  simp only [decide_eq_true_eq]
  split <;> omega

theorem wd_nonneg {l : List Int} (hl : Words l) (j : Int) : 0 ≤ wd l j ∧ wd l j ≤ 65535 := by
  unfold wd
  by_cases h : j.toNat < l.length
  · have : l.getD j.toNat 0 = l[j.toNat] := by simp [List.getD, h]
    rw [this]
    exact hl _ (List.getElem_mem h)
  · have : l.getD j.toNat 0 = 0 := by simp [List.getD, Nat.not_lt.1 h]
    rw [this]; omega

theorem rd_in {l : List Int} {j : Int} {k : Int → Dr} (h1 : 0 ≤ j) (h2 : j < l.length) : rd l j k = k (wd l j) := by
  have : inRange j l.length = true := by simp [inRange]; omega
  unfold rd; rw [this]; rfl

theorem fin3 {x : tInstr.den} {nx : Int} : fin 3 x nx = er 3 := rfl
theorem fin0 {x : tInstr.den} {nx : Int} : fin 0 x nx = some (x, nx, 0, ()) := rfl

def mean (q low high w : Int) : Option Int :=
  if q = 2 ∧ 16384 ≤ w ∧ w < 32767 then (if low ≤ w - 32767 ∧ w - 32767 ≤ high then some (w - 32767) else none)
  else if low ≤ w ∧ w ≤ high then some w else none

def KB (q low high : Int) : Prop := (q = 1 ∧ low = 0 ∧ high = 2047) ∨ (q = 2 ∧ low = -56 ∧ high = 56) ∨ (q = 3 ∧ low = 0 ∧ high = 2) ∨ (q = 4 ∧ low = 0 ∧ high = 31) ∨ (q = 5 ∧ low = 0 ∧ high = 31)

section
variable {l : List Int} {D : Int → Bool} {op i j e q low high : Int}

theorem num16_in (hl : Words l) (h1 : 0 ≤ j) (h2 : j < l.length) {k : Int → Dr} : num16 q low high l j k = match mean q low high (wd l j) with
    | some n => k n
    | none => er 3 := by
  unfold num16 mean
  rw [rd_in h1 h2]
  obtain ⟨r1, r2⟩ := wd_nonneg hl j
  generalize wd l j = w at *
  have e1 : w64 w = w := w64_small (by omega) (by omega)
  have e2 : w64 (w - 32767) = w - 32767 := w64_small (by omega) (by omega)
  simp only [e1, e2, Bool.cond_eq_ite, beq_iff_eq, decide_eq_true_eq, Bool.not_eq_true', decide_eq_false_iff_not, ge_iff_le]
  by_cases c : q = 2 ∧ 16384 ≤ w ∧ w < 32767
  · rw [if_pos c, if_pos c.1, if_pos c.2.1, if_pos c.2.2]
    by_cases d : low ≤ w - 32767 ∧ w - 32767 ≤ high
    · rw [if_pos d, if_pos d.1, if_neg (by omega)]
    · rw [if_neg d]
      try dsimp only
      (repeat' split) <;> first | rfl | (exfalso; omega)
  · rw [if_neg c]
    by_cases d : low ≤ w ∧ w ≤ high
    · rw [if_pos d]
      try dsimp only
      (repeat' split) <;> first | rfl | (exfalso; omega)
    · rw [if_neg d]
      try dsimp only
      (repeat' split) <;> first | rfl | (exfalso; omega)

theorem test15_eq {n nx : Int} {k : Int → Int → Int → Dr} : test15 low high n nx e k = if low ≤ n ∧ n ≤ high then k n nx e else k n nx 3 := by
  unfold test15
  simp only [Bool.cond_eq_ite, decide_eq_true_eq]
  repeat' split
  all_goals first | rfl | (exfalso; omega)

theorem num15_in (hb : KB q low high) (hl : Words l) (hlen : l.length ≤ big) (hD : D op = true) (h1 : 0 ≤ j) (h2 : j < l.length) {k : Int → Int → Int → Dr} : ∃ m, num15 low high D op l j e k = match mean q low high (wd l j) with
    | some n => k n (j + 1) e
    | none => k m (j + 1) 3 := by
  unfold num15 word15
  rw [rd_in h1 h2]
  obtain ⟨r1, r2⟩ := wd_nonneg hl j
  have e0 : w64 (j + 1) = j + 1 := w64_small (by omega) (by unfold big at hlen; omega)
  rw [e0]
  generalize wd l j = w at *
  have e1 : w64 w = w := w64_small (by omega) (by omega)
  have e2 : w64 (w - 32767) = w - 32767 := w64_small (by omega) (by omega)
  have e3 : (bif decide (low < 0) then decide (w > high) else false) = decide (low < 0 ∧ w > high) := by by_cases q1 : low < 0 <;> simp [q1]
  simp only [e1, e2, e3, hD, cond_true, test15_eq, mean]
  simp only [Bool.cond_eq_ite, beq_iff_eq, decide_eq_true_eq]
  refine ⟨if low < 0 ∧ w > high then w - 32767 else w, ?_⟩
  by_cases c : q = 2 ∧ 16384 ≤ w ∧ w < 32767
  · simp only [if_pos c]
    have hq : low = -56 ∧ high = 56 := by rcases hb with h | h | h | h | h <;> omega
    obtain ⟨rfl, rfl⟩ := hq
    simp only [if_pos (show (-56 : Int) < 0 ∧ w > 56 by omega)]
    by_cases d : -56 ≤ w - 32767 ∧ w - 32767 ≤ 56
    · simp only [if_pos d]
      try dsimp only
      (repeat' split) <;> first | rfl | (exfalso; omega)
    · simp only [if_neg d]
      try dsimp only
      (repeat' split) <;> first | rfl | (exfalso; omega)
  · simp only [if_neg c]
    have hx : w ≤ 32767 ∨ ¬ (low ≤ w ∧ w ≤ high) := by rcases hb with h | h | h | h | h <;> omega
    have hy : low < 0 → q = 2 ∧ low = -56 ∧ high = 56 := by rcases hb with h | h | h | h | h <;> omega
    by_cases d : low ≤ w ∧ w ≤ high
    · simp only [if_pos d]
      try dsimp only
      (repeat' split) <;> first | rfl | (exfalso; omega)
    · simp only [if_neg d]
      try dsimp only
      (repeat' split) <;> first | rfl | (exfalso; omega)
end

/-! ### The answer -/
def kinds : List Nat := [0, 1, 1, 1, 1, 6, 7, 0, 0, 0, 0, 0, 0, 0, 0, 0, 0, 0, 0, 2, 0, 0, 0, 0, 0, 0, 2, 0, 0, 3, 0, 1, 1, 4, 4, 4, 4, 5, 0]
def kindOf (w : Int) : Nat := kinds.getD w.toNat 0
def lens : List Int := [1, 2, 2, 2, 2, 3, 3, 7]
def lenOfK (q : Nat) : Int := lens.getD q 0
def highs : List Int := [0, 2047, 56, 2, 31, 31]
def DK (q : Nat) (k : Int) : Bool := decide (1 ≤ k) && decide (k ≤ 38) && Nat.beq (kindOf k) q

def numD (q : Nat) (low high : Int) (l : List Int) (i : Int) (w : Int) : Dr := match mean q low high (wd l (i + 1)) with
  | some n => some ((w, n, 0, (0, 0), (0, 0), (0, 0)), i + 2, 0, ())
  | none => er 3
/-- an instruction of kind q, all of whose words are there -/
def decK (q : Nat) (l : List Int) (i : Int) (w : Int) : Dr := match q with
  | 0 => some ((w, 0, 0, (0, 0), (0, 0), (0, 0)), i + 1, 0, ())
  | 1 => numD 1 0 2047 l i w
  | 2 => numD 2 (-56) 56 l i w
  | 3 => numD 3 0 2 l i w
  | 4 => numD 4 0 31 l i w
  | 5 => match mean 5 0 31 (wd l (i + 1)) with
    | some n => match mean 5 0 31 (wd l (i + 2)) with
      | some m => some ((w, n, m, (0, 0), (0, 0), (0, 0)), i + 3, 0, ())
      | none => er 3
    | none => er 3
  | 6 => if wd l (i + 1) ≤ 32767 ∧ wd l (i + 2) ≤ 32767 then some ((w, 0, 0, (wd l (i + 1), wd l (i + 2)), (0, 0), (0, 0)), i + 3, 0, ()) else er 3
  | _ => if wd l (i + 1) ≤ 32767 ∧ wd l (i + 2) ≤ 32767 ∧ wd l (i + 3) ≤ 32767 ∧ wd l (i + 4) ≤ 32767 ∧ wd l (i + 5) ≤ 32767 ∧ wd l (i + 6) ≤ 32767 then
      some ((w, 0, 0, (wd l (i + 1), wd l (i + 2)), (wd l (i + 3), wd l (i + 4)), (wd l (i + 5), wd l (i + 6))), i + 7, 0, ()) else er 3
def decA (l : List Int) (i : Int) : Dr :=
  if i < 0 ∨ (l.length : Int) ≤ i then er 3 else
  if wd l i < 1 ∨ 38 < wd l i then er 2 else
  if (l.length : Int) - i < lenOfK (kindOf (wd l i)) then er 9 else decK (kindOf (wd l i)) l i (wd l i)

theorem u8_small {k : Int} (h1 : 0 ≤ k) (h2 : k ≤ 255) : IntKind.u8.wrap k = k := by
  unfold IntKind.wrap IntKind.bits IntKind.signed
  simp only [Bool.false_and]
  have e : (2 : Int) ^ 8 = 256 := by decide
  rw [e]
  simp only [Bool.false_eq_true, if_false]
  omega

structure Dcase (q : Nat) (l : List Int) (i : Int) : Prop where
  words : Words l
  len : l.length ≤ big
  lo : 0 ≤ i
  hi : i < l.length
  k : DK q (wd l i) = true

namespace Dcase
variable {q : Nat} {l : List Int} {i : Int}
theorem kn (c : Dcase q l i) : (1 ≤ wd l i ∧ wd l i ≤ 38) ∧ kindOf (wd l i) = q := by
  have := c.k
  simp only [DK, Bool.and_eq_true, decide_eq_true_eq] at this
  exact ⟨this.1, Nat.eq_of_beq_eq_true this.2⟩
theorem ans (c : Dcase q l i) {len : Int} (hl : lenOfK q = len) : decA l i = if (l.length : Int) - i < len then er 9 else decK q l i (wd l i) := by
  have h1 := c.lo; have h2 := c.hi; obtain ⟨h3, h4⟩ := c.kn
  unfold decA
  rw [if_neg (by omega), if_neg (by omega), h4, hl]
theorem rng (c : Dcase q l i) : inRange i l.length = true := by have := c.lo; have := c.hi; simp [inRange]; omega
theorem wrapw (c : Dcase q l i) : IntKind.u8.wrap (wd l i) = wd l i := by obtain ⟨h, _⟩ := c.kn; exact u8_small (by omega) (by omega)
theorem pre15 (c : Dcase q l i) {len : Int} (hl : lenOfK q = len) {k : Int → Dr} : Go.Pv.pre15 (DK q) len l i k = if (l.length : Int) - i < len then er 9 else k (wd l i) := by
  have h1 := c.lo; have h2 := c.hi; obtain ⟨h3, h4⟩ := c.kn; have h5 := c.len
  unfold Go.Pv.pre15
  have e1 : (if 255 < wd l i then 255 else wd l i) = wd l i := if_neg (by omega)
  have e2 : w64 ((l.length : Int) - i) = (l.length : Int) - i := w64_small (by omega) (by unfold big at h5; omega)
  have e3 : decide (i < 0) = false := decide_eq_false (by omega)
  have e4 : decide (i ≥ (l.length : Int)) = false := decide_eq_false (by omega)
  simp only [e1, e2, e3, e4, c.rng, c.wrapw, c.k, Bool.cond_eq_ite, decide_eq_true_eq, Bool.false_eq_true, if_true, if_false]
theorem pre16 (c : Dcase q l i) {len : Int} (hl : lenOfK q = len) {k : Int → Dr} : Go.Pv.pre16 (DK q) len l i k = if (l.length : Int) - i < len then er 9 else k (wd l i) := by
  have h1 := c.lo; have h2 := c.hi; obtain ⟨h3, h4⟩ := c.kn; have h5 := c.len
  unfold Go.Pv.pre16
  have e2 : w64 ((l.length : Int) - i) = (l.length : Int) - i := w64_small (by omega) (by unfold big at h5; omega)
  have e3 : decide (i < 0) = false := decide_eq_false (by omega)
  have e4 : decide (i ≥ (l.length : Int)) = false := decide_eq_false (by omega)
  have e5 : decide (wd l i < 1) = false := decide_eq_false (by omega)
  have e6 : decide (wd l i > 38) = false := decide_eq_false (by omega)
  simp only [e2, e3, e4, e5, e6, c.rng, c.wrapw, c.k, Bool.cond_eq_ite, decide_eq_true_eq, Bool.false_eq_true, if_true, if_false]
theorem ix (c : Dcase q l i) {m : Int} (h0 : 0 ≤ m) (h1 : i + m ≤ l.length) : w64 (i + m) = i + m := by
  have h2 := c.lo; have h5 := c.len; exact w64_small (by omega) (by unfold big at h5; omega)
theorem last (c : Dcase q l i) {m : Int} (h0 : 0 ≤ m) (h1 : i + m ≤ l.length) {x : tInstr.den} (hx : x.1 = wd l i) : end16 (DK q) m i x = some (x, i + m, 0, ()) := by
  unfold end16; rw [hx, c.k, c.ix h0 h1]; rfl
end Dcase

section
variable {q : Nat} {l : List Int} {i : Int}
theorem dec15_0 (c : Dcase 0 l i) : n15_0 (DK 0) l i = decA l i := by
  rw [c.ans (len := 1) rfl]; unfold n15_0; rw [c.pre15 (len := 1) rfl]
  split
  · rfl
  · rename_i h
    rw [c.ix (by omega) (by have := c.hi; omega)]; rfl
theorem dec16_0 (c : Dcase 0 l i) : n16_0 (DK 0) l i = decA l i := by
  rw [c.ans (len := 1) rfl]; unfold n16_0; rw [c.pre16 (len := 1) rfl]
  split
  · rfl
  · rename_i h
    rw [c.last (by omega) (by have := c.hi; omega) rfl]; rfl

theorem dec15_n {low high : Int} (hb : KB (q : Int) low high) (hl : lenOfK q = 2) (hd : decK q l i (wd l i) = numD q low high l i (wd l i)) (c : Dcase q l i) : n15_n low high (DK q) l i = decA l i := by
  rw [c.ans hl, hd]; unfold n15_n; rw [c.pre15 hl]
  split
  · rfl
  · rename_i h
    have h0 := c.lo
    rw [c.ix (by omega) (by omega)]
    obtain ⟨m, e⟩ := num15_in (D := DK q) (op := wd l i) (e := 0) (j := i + 1) hb c.words c.len c.k (by omega) (by omega) (k := fun n nx e => fin e (wd l i, n, 0, (0, 0), (0, 0), (0, 0)) nx)
    rw [e]; unfold numD
    split
    · rw [fin0]; congr 3; omega
    · rfl
theorem dec16_n {low high : Int} (hl : lenOfK q = 2) (hd : decK q l i (wd l i) = numD q low high l i (wd l i)) (c : Dcase q l i) : n16_n q low high (DK q) l i = decA l i := by
  rw [c.ans hl, hd]; unfold n16_n; rw [c.pre16 hl]
  split
  · rfl
  · rename_i h
    have h0 := c.lo
    rw [c.ix (by omega) (by omega), Int.add_zero, c.ix (by omega) (by omega), num16_in c.words (by omega) (by omega)]
    unfold numD
    split
    · rw [c.last (by omega) (by omega) rfl]
    · rfl
theorem dec15_5 (c : Dcase 5 l i) : n15_5 (DK 5) l i = decA l i := by
  rw [c.ans (len := 3) rfl]; unfold n15_5; rw [c.pre15 (len := 3) rfl]
  split
  · rfl
  · rename_i h
    have h0 := c.lo
    have h' : ¬ ((l.length : Int) - i < 3) := h
    rw [c.ix (by omega) (by omega)]
    obtain ⟨m, e⟩ := num15_in (q := 5) (low := 0) (high := 31) (D := DK 5) (op := wd l i) (e := 0) (j := i + 1) (by unfold KB; omega) c.words c.len c.k (by omega) (by omega)
      (k := fun n nx e => num15 0 31 (DK 5) (wd l i) l nx e fun m nx e => fin e (wd l i, n, m, (0, 0), (0, 0), (0, 0)) nx)
    rw [e]
    have key : ∀ (n e : Int), ∃ m, (num15 0 31 (DK 5) (wd l i) l (i + 1 + 1) e fun m nx e => fin e (wd l i, n, m, (0, 0), (0, 0), (0, 0)) nx) = match mean 5 0 31 (wd l (i + 1 + 1)) with
        | some k => fin e (wd l i, n, k, (0, 0), (0, 0), (0, 0)) (i + 1 + 1 + 1)
        | none => fin 3 (wd l i, n, m, (0, 0), (0, 0), (0, 0)) (i + 1 + 1 + 1) := fun n e =>
      num15_in (q := 5) (low := 0) (high := 31) (D := DK 5) (op := wd l i) (e := e) (j := i + 1 + 1) (by unfold KB; omega) c.words c.len c.k (by omega) (by omega) (k := fun m nx e => fin e (wd l i, n, m, (0, 0), (0, 0), (0, 0)) nx)
    have e2 : i + 1 + 1 = i + 2 := by omega
    have e3 : i + 2 + 1 = i + 3 := by omega
    unfold decK
    simp only
    split
    · rename_i n _
      obtain ⟨m2, h2⟩ := key n 0
      rw [h2, e2, e3]
      split
      · rfl
      · rfl
    · obtain ⟨m2, h2⟩ := key m 3
      rw [h2]
      split
      · rfl
      · rfl
theorem dec16_5 (c : Dcase 5 l i) : n16_5 (DK 5) l i = decA l i := by
  rw [c.ans (len := 3) rfl]; unfold n16_5; rw [c.pre16 (len := 3) rfl]
  split
  · rfl
  · rename_i h
    have h0 := c.lo
    have h' : ¬ ((l.length : Int) - i < 3) := h
    rw [c.ix (m := 1) (by omega) (by omega), Int.add_zero, c.ix (m := 1) (by omega) (by omega), Int.add_assoc, c.ix (m := 1 + 1) (by omega) (by omega), num16_in c.words (by omega) (by omega)]
    unfold decK
    simp only
    split
    · rw [num16_in c.words (by omega) (by omega)]
      have : i + (1 + 1) = i + 2 := by omega
      rw [this]
      split
      · rw [c.last (by omega) (by omega) rfl]
      · rfl
    · rfl

theorem word15_in (hw : Words l) (hlen : l.length ≤ big) {j e : Int} (h1 : 0 ≤ j) (h2 : j < l.length) {k : Int → Int → Int → Dr} : word15 l j e k = k (wd l j) (j + 1) (if wd l j ≤ 32767 then e else 3) := by
  unfold word15
  rw [rd_in h1 h2, w64_small (by omega) (by unfold big at hlen; omega)]
  by_cases h : wd l j ≤ 32767
  · rw [if_pos h, decide_eq_false (by omega)]; rfl
  · rw [if_neg h, decide_eq_true (by omega)]; rfl
theorem dbl16_in {j j' : Int} (h1 : 0 ≤ j) (h2 : j < l.length) (h3 : 0 ≤ j') (h4 : j' < l.length) {k : Int → Int → Dr} : dbl16 l j j' k = if wd l j ≤ 32767 ∧ wd l j' ≤ 32767 then k (wd l j) (wd l j') else er 3 := by
  unfold dbl16
  rw [rd_in h1 h2, rd_in h3 h4]
  simp only [Bool.cond_eq_ite, decide_eq_true_eq]
  (repeat' split) <;> first | rfl | (exfalso; omega)
theorem dec15_6 (c : Dcase 6 l i) : n15_6 (DK 6) l i = decA l i := by
  rw [c.ans (len := 3) rfl]; unfold n15_6; rw [c.pre15 (len := 3) rfl]
  split
  · rfl
  · rename_i h
    have h0 := c.lo
    have h' : ¬ ((l.length : Int) - i < 3) := h
    rw [c.ix (by omega) (by omega), word15_in c.words c.len (by omega) (by omega), word15_in c.words c.len (by omega) (by omega)]
    have e2 : i + 1 + 1 = i + 2 := by omega
    have e3 : i + 2 + 1 = i + 3 := by omega
    rw [e2, e3]
    unfold decK
    simp only
    (repeat' split) <;> first | rfl | (exfalso; omega)
theorem dec16_6 (c : Dcase 6 l i) : n16_6 (DK 6) l i = decA l i := by
  rw [c.ans (len := 3) rfl]; unfold n16_6; rw [c.pre16 (len := 3) rfl]
  split
  · rfl
  · rename_i h
    have h0 := c.lo
    have h' : ¬ ((l.length : Int) - i < 3) := h
    rw [c.ix (m := 1) (by omega) (by omega), c.ix (m := 2) (by omega) (by omega), Int.add_zero, Int.add_zero, c.ix (m := 1) (by omega) (by omega), c.ix (m := 2) (by omega) (by omega), dbl16_in (by omega) (by omega) (by omega) (by omega)]
    unfold decK
    simp only
    split
    · rw [c.last (by omega) (by omega) rfl]
    · rfl
theorem dec15_7 (c : Dcase 7 l i) : n15_7 (DK 7) l i = decA l i := by
  rw [c.ans (len := 7) rfl]; unfold n15_7; rw [c.pre15 (len := 7) rfl]
  split
  · rfl
  · rename_i h
    have h0 := c.lo
    have h' : ¬ ((l.length : Int) - i < 7) := h
    rw [c.ix (by omega) (by omega)]
    iterate 6 rw [word15_in c.words c.len (by omega) (by omega)]
    have e2 : i + 1 + 1 = i + 2 := by omega
    have e3 : i + 2 + 1 = i + 3 := by omega
    have e4 : i + 3 + 1 = i + 4 := by omega
    have e5 : i + 4 + 1 = i + 5 := by omega
    have e6 : i + 5 + 1 = i + 6 := by omega
    have e7 : i + 6 + 1 = i + 7 := by omega
    rw [e2, e3, e4, e5, e6, e7]
    unfold decK
    simp only
    by_cases hh : wd l (i + 1) ≤ 32767 ∧ wd l (i + 2) ≤ 32767 ∧ wd l (i + 3) ≤ 32767 ∧ wd l (i + 4) ≤ 32767 ∧ wd l (i + 5) ≤ 32767 ∧ wd l (i + 6) ≤ 32767
    · rw [if_pos hh]
      obtain ⟨a1, a2, a3, a4, a5, a6⟩ := hh
      rw [if_pos a1, if_pos a2, if_pos a3, if_pos a4, if_pos a5, if_pos a6]; rfl
    · rw [if_neg hh]
      (repeat' split) <;> first | rfl | (exfalso; omega)
theorem dec16_7 (c : Dcase 7 l i) : n16_7 (DK 7) l i = decA l i := by
  rw [c.ans (len := 7) rfl]; unfold n16_7; rw [c.pre16 (len := 7) rfl]
  split
  · rfl
  · rename_i h
    have h0 := c.lo
    have h' : ¬ ((l.length : Int) - i < 7) := h
    rw [c.ix (m := 1) (by omega) (by omega), c.ix (m := 2) (by omega) (by omega), Int.add_zero, Int.add_zero, Int.add_assoc i 1 2, Int.add_assoc i 2 2, Int.add_assoc i 1 4, Int.add_assoc i 2 4,
      c.ix (m := 1) (by omega) (by omega), c.ix (m := 2) (by omega) (by omega), c.ix (m := 1 + 2) (by omega) (by omega), c.ix (m := 2 + 2) (by omega) (by omega), c.ix (m := 1 + 4) (by omega) (by omega), c.ix (m := 2 + 4) (by omega) (by omega)]
    have e3 : i + (1 + 2) = i + 3 := by omega
    have e4 : i + (2 + 2) = i + 4 := by omega
    have e5 : i + (1 + 4) = i + 5 := by omega
    have e6 : i + (2 + 4) = i + 6 := by omega
    rw [e3, e4, e5, e6]
    iterate 3 rw [dbl16_in (by omega) (by omega) (by omega) (by omega)]
    rw [c.last (by omega) (by omega) rfl]
    unfold decK
    simp only
    (repeat' split) <;> first | rfl | (exfalso; omega)
end
end Go.Pv
