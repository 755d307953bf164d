/-
  Encode: the answer, for every instruction; both functions give it.
-/
import Derived.Test.YtidbhhfilhognaaR1Enc2
namespace Go.Pv
open Go.Proofs

def nw (n : Int) : Int := if n < 0 then n + 32767 else n
abbrev Z6 (x1 x2 x3 x4 x5 x6 : Int) : Prop := x1 = 0 ∧ x2 = 0 ∧ x3 = 0 ∧ x4 = 0 ∧ x5 = 0 ∧ x6 = 0
def lows : List Int := [0, 0, -56, 0, 0, 0]
def bot : List Int × Int × Unit := ([], 2, ())
def encN (low high : Int) (k a b x1 x2 x3 x4 x5 x6 : Int) : List Int × Int × Unit :=
  if b = 0 ∧ Z6 x1 x2 x3 x4 x5 x6 then (if low ≤ a ∧ a ≤ high then ([k, nw a], 0, ()) else ([], 3, ())) else ([], 2, ())
def encK (q : Nat) (k a b x1 x2 x3 x4 x5 x6 : Int) : List Int × Int × Unit := match q with
  | 0 => if a = 0 ∧ b = 0 ∧ Z6 x1 x2 x3 x4 x5 x6 then ([k], 0, ()) else ([], 2, ())
  | 1 => encN 0 2047 k a b x1 x2 x3 x4 x5 x6
  | 2 => encN (-56) 56 k a b x1 x2 x3 x4 x5 x6
  | 3 => encN 0 2 k a b x1 x2 x3 x4 x5 x6
  | 4 => encN 0 31 k a b x1 x2 x3 x4 x5 x6
  | 5 => if Z6 x1 x2 x3 x4 x5 x6 then (if (0 ≤ a ∧ a ≤ 31) ∧ 0 ≤ b ∧ b ≤ 31 then ([k, nw a, nw b], 0, ()) else ([], 3, ())) else ([], 2, ())
  | 6 => if a = 0 ∧ b = 0 ∧ Z6 0 0 x3 x4 x5 x6 then (if x1 ≤ 32767 ∧ x2 ≤ 32767 then ([k, x1, x2], 0, ()) else ([], 3, ())) else ([], 2, ())
  | _ => if a = 0 ∧ b = 0 then (if x1 ≤ 32767 ∧ x2 ≤ 32767 ∧ x3 ≤ 32767 ∧ x4 ≤ 32767 ∧ x5 ≤ 32767 ∧ x6 ≤ 32767 then ([k, x1, x2, x3, x4, x5, x6], 0, ()) else ([], 3, ())) else ([], 2, ())
def encA (x : tInstr.den) : List Int × Int × Unit :=
  if 1 ≤ x.1 ∧ x.1 ≤ 38 then encK (kindOf x.1) x.1 x.2.1 x.2.2.1 x.2.2.2.1.1 x.2.2.2.1.2 x.2.2.2.2.1.1 x.2.2.2.2.1.2 x.2.2.2.2.2.1 x.2.2.2.2.2.2 else ([], 2, ())

theorem w16_small {n : Int} (h1 : 0 ≤ n) (h2 : n ≤ 65535) : w16 n = n := by
  unfold w16 IntKind.wrap IntKind.bits IntKind.signed
  simp only [Bool.false_and]
  have e : (2 : Int) ^ 16 = 65536 := by decide
  rw [e]
  simp only [Bool.false_eq_true, if_false]
  omega

section
variable {D : Int → Bool} {k a b x1 x2 x3 x4 x5 x6 : Int}

theorem zz_iff {x y : Int} : zz x y = true ↔ x = 0 ∧ y = 0 := by simp [zz]
theorem nz_iff : nz a b x1 x2 x3 x4 x5 x6 = false ↔ a = 0 ∧ b = 0 ∧ Z6 x1 x2 x3 x4 x5 x6 := by
  simp only [nz, Bool.not_eq_false', Bool.and_eq_true, zz_iff, beq_iff_eq, Z6, and_true, and_assoc]
theorem put12_in {n e : Int} {out : List Int} {c : Int → List Int → En} (h1 : -56 ≤ n) (h2 : n ≤ 2047) : put12 n e out c = c e (out ++ [nw n]) := by
  unfold put12 nw
  by_cases h : n < 0
  · rw [decide_eq_true h, if_pos h, w64_small (by omega) (by omega), w16_small (by omega) (by omega)]; rfl
  · rw [decide_eq_false h, if_neg h, w16_small (n := n) (by omega) (by omega)]; rfl
theorem put12_any {n e : Int} {out : List Int} {c : Int → List Int → En} : ∃ m, put12 n e out c = c e (out ++ [m]) := by
  unfold put12
  cases decide (n < 0)
  · exact ⟨_, rfl⟩
  · exact ⟨_, rfl⟩
theorem num12_in {low high n e : Int} {out : List Int} {c : Int → List Int → En} (h1 : -56 ≤ low) (h2 : high ≤ 2047) : ∃ m, num12 low high n e out c = if low ≤ n ∧ n ≤ high then c e (out ++ [nw n]) else c 3 (out ++ [m]) := by
  unfold num12
  by_cases h : low ≤ n ∧ n ≤ high
  · refine ⟨0, ?_⟩
    rw [if_pos h, decide_eq_false (by omega), decide_eq_false (by omega), cond_false, cond_false, put12_in (by omega) (by omega)]
  · obtain ⟨m, hm⟩ := put12_any (n := n) (e := 3) (out := out) (c := c)
    refine ⟨m, ?_⟩
    rw [if_neg h, ← hm]
    by_cases h3 : n < low
    · rw [decide_eq_true h3]; rfl
    · rw [decide_eq_false h3, decide_eq_true (by omega)]; rfl
theorem lit12_in {x y e : Int} {out : List Int} {c : Int → List Int → En} : lit12 x y e out c = c (if x ≤ 32767 ∧ y ≤ 32767 then e else 3) (out ++ [x, y]) := by
  unfold lit12
  by_cases h : x ≤ 32767 ∧ y ≤ 32767
  · rw [if_pos h, decide_eq_false (by split <;> omega)]; rfl
  · rw [if_neg h, decide_eq_true (by split <;> omega)]; rfl
theorem end12_3 {out : List Int} : end12 3 out = ee 3 := rfl
theorem end12_0 {out : List Int} : end12 0 out = some (out, 0, ()) := rfl
theorem pre12_in (hD : D k = true) (h1 : 1 ≤ k) (h2 : k ≤ 38) {z : Bool} {c : List Int → En} : pre12 D k z c = if z = false then c [k] else ee 2 := by
  unfold pre12 onlyI
  rw [hD, w16_small (by omega) (by omega)]
  cases z <;> rfl

theorem enc12_0 (hD : D k = true) (h1 : 1 ≤ k) (h2 : k ≤ 38) : m12_0 D k a b x1 x2 x3 x4 x5 x6 = some (encK 0 k a b x1 x2 x3 x4 x5 x6) := by
  unfold m12_0 encK
  rw [pre12_in hD h1 h2]
  simp only [nz_iff]
  split <;> rfl
theorem enc12_n {low high : Int} (hl : -56 ≤ low) (hh : high ≤ 2047) (hD : D k = true) (h1 : 1 ≤ k) (h2 : k ≤ 38) : m12_n low high D k a b x1 x2 x3 x4 x5 x6 = some (encN low high k a b x1 x2 x3 x4 x5 x6) := by
  unfold m12_n encN
  rw [pre12_in hD h1 h2]
  simp only [nz_iff, true_and]
  split
  · obtain ⟨m, hm⟩ := num12_in (n := a) (e := 0) (out := [k]) (c := end12) hl hh
    rw [hm]
    split <;> rfl
  · rfl
theorem enc12_5 (hD : D k = true) (h1 : 1 ≤ k) (h2 : k ≤ 38) : m12_5 D k a b x1 x2 x3 x4 x5 x6 = some (encK 5 k a b x1 x2 x3 x4 x5 x6) := by
  unfold m12_5 encK
  rw [pre12_in hD h1 h2]
  simp only [nz_iff, true_and]
  split
  · obtain ⟨m, hm⟩ := num12_in (low := 0) (high := 31) (n := a) (e := 0) (out := [k]) (c := fun e out => num12 0 31 b e out end12) (by omega) (by omega)
    rw [hm]
    split
    · obtain ⟨m2, hm2⟩ := num12_in (low := 0) (high := 31) (n := b) (e := 0) (out := [k] ++ [nw a]) (c := end12) (by omega) (by omega)
      rw [hm2]
      split
      · rw [if_pos (by omega)]; rfl
      · rw [if_neg (by omega)]; rfl
    · rw [if_neg (by omega)]
      obtain ⟨m2, hm2⟩ := num12_in (low := 0) (high := 31) (n := b) (e := 3) (out := [k] ++ [m]) (c := end12) (by omega) (by omega)
      rw [hm2]
      split <;> rfl
  · rfl
theorem enc12_6 (hD : D k = true) (h1 : 1 ≤ k) (h2 : k ≤ 38) : m12_6 D k a b x1 x2 x3 x4 x5 x6 = some (encK 6 k a b x1 x2 x3 x4 x5 x6) := by
  unfold m12_6 encK
  rw [pre12_in hD h1 h2]
  simp only [nz_iff]
  split
  · rw [lit12_in]
    split <;> rfl
  · rfl
theorem enc12_7 (hD : D k = true) (h1 : 1 ≤ k) (h2 : k ≤ 38) : m12_7 D k a b x1 x2 x3 x4 x5 x6 = some (encK 7 k a b x1 x2 x3 x4 x5 x6) := by
  unfold m12_7 encK
  rw [pre12_in hD h1 h2]
  have : (a = 0 ∧ b = 0 ∧ Z6 0 0 0 0 0 0) ↔ (a = 0 ∧ b = 0) := by simp [Z6]
  simp only [nz_iff, this]
  split
  · rw [lit12_in, lit12_in, lit12_in]
    by_cases h : x1 ≤ 32767 ∧ x2 ≤ 32767 ∧ x3 ≤ 32767 ∧ x4 ≤ 32767 ∧ x5 ≤ 32767 ∧ x6 ≤ 32767
    · obtain ⟨a1, a2, a3, a4, a5, a6⟩ := h
      simp only [if_pos (And.intro a1 a2), if_pos (And.intro a3 a4), if_pos (And.intro a5 a6), if_pos (show x1 ≤ 32767 ∧ x2 ≤ 32767 ∧ x3 ≤ 32767 ∧ x4 ≤ 32767 ∧ x5 ≤ 32767 ∧ x6 ≤ 32767 from ⟨a1, a2, a3, a4, a5, a6⟩)]; rfl
    · rw [if_neg h]
      (repeat' split) <;> first | rfl | (exfalso; omega)
  · rfl

theorem num13_in {low high n : Int} {out : List Int} {c : List Int → En} (h1 : -56 ≤ low) (h2 : high ≤ 2047) : num13 low high n out c = if low ≤ n ∧ n ≤ high then c (out ++ [nw n]) else ee 3 := by
  unfold num13 put13 nw
  by_cases h : low ≤ n ∧ n ≤ high
  · rw [if_pos h, decide_eq_true (show n ≥ low from h.1), decide_eq_true h.2]
    by_cases h3 : n < 0
    · rw [decide_eq_true h3, if_pos h3, w64_small (by omega) (by omega), w16_small (by omega) (by omega), Int.add_comm 32767]; rfl
    · rw [decide_eq_false h3, if_neg h3, w16_small (n := n) (by omega) (by omega)]; rfl
  · rw [if_neg h]
    by_cases h3 : low ≤ n
    · rw [decide_eq_true (show n ≥ low from h3), decide_eq_false (by omega)]; rfl
    · rw [decide_eq_false (show ¬ n ≥ low from h3)]; rfl
theorem lit13_in {x y : Int} {out : List Int} {c : List Int → En} : lit13 x y out c = if x ≤ 32767 ∧ y ≤ 32767 then c (out ++ [x, y]) else ee 3 := by
  unfold lit13
  simp only [Bool.cond_eq_ite, decide_eq_true_eq]
  (repeat' split) <;> first | rfl | (exfalso; omega)
theorem un_ne {x : Int} {c : En} : un13 (x != 0) c = if x = 0 then c else ee 2 := by
  unfold un13
  by_cases h : x = 0
  · subst h; rfl
  · rw [if_neg h]
    have : (x != 0) = true := by simp [h]
    rw [this]; rfl
theorem un_zz {x y : Int} {c : En} : un13 (!zz x y) c = if x = 0 ∧ y = 0 then c else ee 2 := by
  unfold un13
  by_cases h : x = 0 ∧ y = 0
  · rw [if_pos h, zz_iff.2 h]; rfl
  · rw [if_neg h]
    have : zz x y = false := by
      cases e : zz x y with
      | false => rfl
      | true => exact absurd (zz_iff.1 e) h
    rw [this]; rfl
theorem on_in (hD : D k = true) {c : En} : onlyI (D k) (onlyI (D k) c) = c := by rw [hD]; rfl

theorem enc13_0 (hD : D k = true) (h1 : 1 ≤ k) (h2 : k ≤ 38) : m13_0 D k a b x1 x2 x3 x4 x5 x6 = some (encK 0 k a b x1 x2 x3 x4 x5 x6) := by
  unfold m13_0 encK
  rw [on_in hD, un_ne, un_ne, un_zz, un_zz, un_zz, w16_small (by omega) (by omega)]
  simp only
  (repeat' split) <;> first | rfl | (exfalso; omega)
theorem enc13_n {low high : Int} (hl : -56 ≤ low) (hh : high ≤ 2047) (hD : D k = true) (h1 : 1 ≤ k) (h2 : k ≤ 38) : m13_n low high D k a b x1 x2 x3 x4 x5 x6 = some (encN low high k a b x1 x2 x3 x4 x5 x6) := by
  unfold m13_n encN
  rw [on_in hD, un_ne, un_zz, un_zz, un_zz, w16_small (by omega) (by omega), num13_in hl hh]
  (repeat' split) <;> first | rfl | (exfalso; omega)
theorem enc13_5 (hD : D k = true) (h1 : 1 ≤ k) (h2 : k ≤ 38) : m13_5 D k a b x1 x2 x3 x4 x5 x6 = some (encK 5 k a b x1 x2 x3 x4 x5 x6) := by
  unfold m13_5 encK
  rw [on_in hD, un_zz, un_zz, un_zz, w16_small (by omega) (by omega), num13_in (by omega) (by omega), num13_in (by omega) (by omega)]
  simp only
  (repeat' split) <;> first | rfl | (exfalso; omega)
theorem enc13_6 (hD : D k = true) (h1 : 1 ≤ k) (h2 : k ≤ 38) : m13_6 D k a b x1 x2 x3 x4 x5 x6 = some (encK 6 k a b x1 x2 x3 x4 x5 x6) := by
  unfold m13_6 encK
  rw [on_in hD, un_ne, un_ne, un_zz, un_zz, w16_small (by omega) (by omega), lit13_in]
  simp only
  (repeat' split) <;> first | rfl | (exfalso; omega)
theorem enc13_7 (hD : D k = true) (h1 : 1 ≤ k) (h2 : k ≤ 38) : m13_7 D k a b x1 x2 x3 x4 x5 x6 = some (encK 7 k a b x1 x2 x3 x4 x5 x6) := by
  unfold m13_7 encK
  rw [on_in hD, un_ne, un_ne, w16_small (by omega) (by omega), lit13_in, lit13_in, lit13_in]
  simp only
  (repeat' split) <;> first | rfl | (exfalso; omega)
end

theorem specsE_ok {q : Nat} {q' : Int} (hq : (q : Int) = q') (u19 : each38 (fun k => isB (evalF Try.prog tt call0 [] 19 sOp [.val .bool] (k, ())) true) = true) (R : Type) : SpecOK Try.prog (specsE (DK q) q' R) := by
  subst hq
  intro f s hs
  unfold specsE at hs
  split at hs
  · cases hs; exact specD_ok (onD fun k hk => isB_eq (each38_at t20 (DK_iff.1 hk).1.1 (DK_iff.1 hk).1.2)) flat_bool count20
  · cases hs; exact specD_ok (onD fun k hk => isB_eq (each38_at u19 (DK_iff.1 hk).1.1 (DK_iff.1 hk).1.2)) flat_bool count19
  · cases hs; exact specD_ok (onD fun k hk => by have := isI_eq (each38_at t23 (DK_iff.1 hk).1.1 (DK_iff.1 hk).1.2); rw [(DK_iff.1 hk).2] at this; exact this) flat_u8 count23
  · cases hs; exact specD_ok (onD fun k hk => by have := isI_eq (each38_at t24 (DK_iff.1 hk).1.1 (DK_iff.1 hk).1.2); rw [(DK_iff.1 hk).2] at this; exact this) flat_u8 count24
  · cases hs
theorem t19 : each38 (fun k => isB (evalF Try.prog tt call0 [] 19 sOp [.val .bool] (k, ())) true) = true := by kernel_rfl
theorem callEnc_ok {q : Nat} {q' : Int} (hq : (q : Int) = q') (R : Type) : CallsOK Try.prog (callEnc (DK q) q' R) := callsE_ok tt_ok mixed names (specsE_ok hq t19 R) 20

def domI (k : Int) : Prop := 0 ≤ k ∧ k ≤ 255
def FEnc (x : Sig.den sEnc) : Option (Shape.den (resShape 0 rEnc)) := if 0 ≤ x.1.1 ∧ x.1.1 ≤ 255 then some (encA x.1) else none

theorem encA_in {k a b x1 x2 x3 x4 x5 x6 : Int} (h1 : 1 ≤ k) (h2 : k ≤ 38) : encA (k, a, b, (x1, x2), (x3, x4), (x5, x6)) = encK (kindOf k) k a b x1 x2 x3 x4 x5 x6 := if_pos ⟨h1, h2⟩
theorem encA_out {k a b x1 x2 x3 x4 x5 x6 : Int} (h : ¬ (1 ≤ k ∧ k ≤ 38)) : encA (k, a, b, (x1, x2), (x3, x4), (x5, x6)) = ([], 2, ()) := if_neg h
theorem outK_of {k : Int} (h : 0 ≤ k ∧ k ≤ 255) (h2 : ¬ (1 ≤ k ∧ k ≤ 38)) : outK k = true := by
  simp only [outK, Bool.or_eq_true, Bool.and_eq_true, decide_eq_true_eq]; omega

abbrev Evals (f : FuncId) (sa sr : Sig) (x : sa.den) (y : Shape.den (resShape 0 sr)) : Prop := ∃ callE : (R : Type) → CallE R, (∀ R, CallsOK Try.prog (callE R)) ∧ ∃ lss, evalF Try.prog tt callE lss f sa sr x = some y

theorem of12 {q : Nat} {q' : Int} (hq : (q : Int) = q') {k a b x1 x2 x3 x4 x5 x6 : Int} {y : List Int × Int × Unit} (h : f12q (DK q) q' k a b x1 x2 x3 x4 x5 x6 = some y) : Evals 12 sEnc rEnc ((k, a, b, (x1, x2), (x3, x4), (x5, x6)), ()) y := ⟨_, callEnc_ok hq, [], h⟩
theorem of13 {q : Nat} {q' : Int} (hq : (q : Int) = q') {k a b x1 x2 x3 x4 x5 x6 : Int} {y : List Int × Int × Unit} (h : f13q (DK q) q' k a b x1 x2 x3 x4 x5 x6 = some y) : Evals 13 sEnc rEnc ((k, a, b, (x1, x2), (x3, x4), (x5, x6)), ()) y := ⟨_, callEnc_ok hq, [], h⟩

theorem evals12 (k a b x1 x2 x3 x4 x5 x6 : Int) (hk : 0 ≤ k ∧ k ≤ 255) : Evals 12 sEnc rEnc ((k, a, b, (x1, x2), (x3, x4), (x5, x6)), ()) (encA (k, a, b, (x1, x2), (x3, x4), (x5, x6))) := by
  by_cases h : 1 ≤ k ∧ k ≤ 38
  · rw [encA_in h.1 h.2]
    have hd : DK (kindOf k) k = true := DK_iff.2 ⟨h, rfl⟩
    have hlt := kind_lt h.1 h.2
    generalize kindOf k = q at *
    match q, hlt, hd with
    | 0, _, hd => exact of12 (q := 0) (q' := 0) rfl ((e12q_0 _ _ _ _ _ _ _ _ _ _).trans (enc12_0 hd h.1 h.2))
    | 1, _, hd => exact of12 (q := 1) (q' := 1) rfl ((e12q_1 _ _ _ _ _ _ _ _ _ _).trans (enc12_n (by omega) (by omega) hd h.1 h.2))
    | 2, _, hd => exact of12 (q := 2) (q' := 2) rfl ((e12q_2 _ _ _ _ _ _ _ _ _ _).trans (enc12_n (by omega) (by omega) hd h.1 h.2))
    | 3, _, hd => exact of12 (q := 3) (q' := 3) rfl ((e12q_3 _ _ _ _ _ _ _ _ _ _).trans (enc12_n (by omega) (by omega) hd h.1 h.2))
    | 4, _, hd => exact of12 (q := 4) (q' := 4) rfl ((e12q_4 _ _ _ _ _ _ _ _ _ _).trans (enc12_n (by omega) (by omega) hd h.1 h.2))
    | 5, _, hd => exact of12 (q := 5) (q' := 5) rfl ((e12q_5 _ _ _ _ _ _ _ _ _ _).trans (enc12_5 hd h.1 h.2))
    | 6, _, hd => exact of12 (q := 6) (q' := 6) rfl ((e12q_6 _ _ _ _ _ _ _ _ _ _).trans (enc12_6 hd h.1 h.2))
    | 7, _, hd => exact of12 (q := 7) (q' := 7) rfl ((e12q_7 _ _ _ _ _ _ _ _ _ _).trans (enc12_7 hd h.1 h.2))
    | q + 8, hlt, _ => omega
  · rw [encA_out h]
    exact ⟨_, callU_ok, [], (e12q_u _ _ _ _ _ _ _ _ _).trans (by rw [outK_of hk h]; rfl)⟩
theorem evals13 (k a b x1 x2 x3 x4 x5 x6 : Int) (hk : 0 ≤ k ∧ k ≤ 255) : Evals 13 sEnc rEnc ((k, a, b, (x1, x2), (x3, x4), (x5, x6)), ()) (encA (k, a, b, (x1, x2), (x3, x4), (x5, x6))) := by
  by_cases h : 1 ≤ k ∧ k ≤ 38
  · rw [encA_in h.1 h.2]
    have hd : DK (kindOf k) k = true := DK_iff.2 ⟨h, rfl⟩
    have hlt := kind_lt h.1 h.2
    generalize kindOf k = q at *
    match q, hlt, hd with
    | 0, _, hd => exact of13 (q := 0) (q' := 0) rfl ((e13q_0 _ _ _ _ _ _ _ _ _ _).trans (enc13_0 hd h.1 h.2))
    | 1, _, hd => exact of13 (q := 1) (q' := 1) rfl ((e13q_1 _ _ _ _ _ _ _ _ _ _).trans (enc13_n (by omega) (by omega) hd h.1 h.2))
    | 2, _, hd => exact of13 (q := 2) (q' := 2) rfl ((e13q_2 _ _ _ _ _ _ _ _ _ _).trans (enc13_n (by omega) (by omega) hd h.1 h.2))
    | 3, _, hd => exact of13 (q := 3) (q' := 3) rfl ((e13q_3 _ _ _ _ _ _ _ _ _ _).trans (enc13_n (by omega) (by omega) hd h.1 h.2))
    | 4, _, hd => exact of13 (q := 4) (q' := 4) rfl ((e13q_4 _ _ _ _ _ _ _ _ _ _).trans (enc13_n (by omega) (by omega) hd h.1 h.2))
    | 5, _, hd => exact of13 (q := 5) (q' := 5) rfl ((e13q_5 _ _ _ _ _ _ _ _ _ _).trans (enc13_5 hd h.1 h.2))
    | 6, _, hd => exact of13 (q := 6) (q' := 6) rfl ((e13q_6 _ _ _ _ _ _ _ _ _ _).trans (enc13_6 hd h.1 h.2))
    | 7, _, hd => exact of13 (q := 7) (q' := 7) rfl ((e13q_7 _ _ _ _ _ _ _ _ _ _).trans (enc13_7 hd h.1 h.2))
    | q + 8, hlt, _ => omega
  · rw [encA_out h]
    exact ⟨_, callU_ok, [], (e13q_u _ _ _ _ _ _ _ _ _).trans (by rw [outK_of hk h]; rfl)⟩

theorem FEnc_some {x : Sig.den sEnc} {y : Shape.den (resShape 0 rEnc)} (h : FEnc x = some y) : (0 ≤ x.1.1 ∧ x.1.1 ≤ 255) ∧ encA x.1 = y := by
  unfold FEnc at h
  by_cases c : 0 ≤ x.1.1 ∧ x.1.1 ≤ 255
  · rw [if_pos c] at h
    exact ⟨c, Option.some.inj h⟩
  · rw [if_neg c] at h; cases h
theorem fn12' : FnOK Try.prog 12 sEnc rEnc FEnc := fnSome fun x y h => by
  obtain ⟨c, rfl⟩ := FEnc_some h
  obtain ⟨⟨k, a, b, ⟨x1, x2⟩, ⟨x3, x4⟩, x5, x6⟩, ⟨⟩⟩ := x
  exact evals12 k a b x1 x2 x3 x4 x5 x6 c
theorem fn13' : FnOK Try.prog 13 sEnc rEnc FEnc := fnSome fun x y h => by
  obtain ⟨c, rfl⟩ := FEnc_some h
  obtain ⟨⟨k, a, b, ⟨x1, x2⟩, ⟨x3, x4⟩, x5, x6⟩, ⟨⟩⟩ := x
  exact evals13 k a b x1 x2 x3 x4 x5 x6 c
end Go.Pv
