/-
  Encode: the program's and the reference's answer alike, whatever the instruction.
-/
import Derived.Test.YtidbhhfilhognaaR1Enc
namespace Go.Pv
open Go.Proofs
theorem w01 : (IntKind.i64.wrap (0 + 1)).toNat = 1 := by decide
theorem w02 : (IntKind.i64.wrap (IntKind.i64.wrap (0 + 1) + 1)).toNat = 2 := by decide
theorem w12 : (IntKind.i64.wrap (1 + 1)).toNat = 2 := by decide
theorem n00 : Nat.beq 0 0 = true := rfl
theorem n01 : Nat.beq 0 1 = false := rfl
theorem n02 : Nat.beq 0 2 = false := rfl
set_option linter.unusedSimpArgs false
abbrev ResEnc := Shape.den (resShape 0 [.row tW, .val tI])
def Good (o : Option (List Int × Int × Unit)) : Prop := ∃ y, o = some y ∧ y.1.length ≤ 7
theorem good_cond {c : Bool} {a b : Option (List Int × Int × Unit)} (ha : Good a) (hb : Good b) : Good (bif c then a else b) := by cases c <;> assumption
theorem good_leaf {y : List Int × Int × Unit} (h : y.1.length ≤ 7) : Good (some y) := ⟨y, rfl, h⟩
theorem alike_0 (k a b x1 x2 x3 x4 x5 x6 : Int) : n12_0 k a b x1 x2 x3 x4 x5 x6 = n13_0 k a b x1 x2 x3 x4 x5 x6 := by
  unfold n12_0 n13_0
  simp only [w01, w02, w12, n00, n01, n02, Int.toNat_zero, Int.toNat_one, List.getD_cons_zero, List.getD_cons_succ, cond_false, cond_true, Nat.add_zero, beq_self_eq_true, Bool.true_and, Bool.and_true]
  simp only [Bool.cond_eq_ite, Int.add_comm 32767, bne, Bool.not_and, Bool.or_eq_true, Bool.not_eq_true', beq_eq_false_iff_ne, ne_eq, decide_eq_true_eq, decide_eq_false_iff_not]
  repeat' split
  all_goals first | rfl | (exfalso; omega) | skip
theorem some_0 (k a b x1 x2 x3 x4 x5 x6 : Int) : Good (n13_0 k a b x1 x2 x3 x4 x5 x6) := by
  unfold n13_0
  repeat' first | exact good_leaf (by simp) | apply good_cond
theorem alike_1 (k a b x1 x2 x3 x4 x5 x6 : Int) : n12_1 k a b x1 x2 x3 x4 x5 x6 = n13_1 k a b x1 x2 x3 x4 x5 x6 := by
  unfold n12_1 n13_1
  simp only [w01, w02, w12, n00, n01, n02, Int.toNat_zero, Int.toNat_one, List.getD_cons_zero, List.getD_cons_succ, cond_false, cond_true, Nat.add_zero, beq_self_eq_true, Bool.true_and, Bool.and_true]
  simp only [Bool.cond_eq_ite, Int.add_comm 32767, bne, Bool.not_and, Bool.or_eq_true, Bool.not_eq_true', beq_eq_false_iff_ne, ne_eq, decide_eq_true_eq, decide_eq_false_iff_not]
  repeat' split
  all_goals first | rfl | (exfalso; omega) | skip
theorem some_1 (k a b x1 x2 x3 x4 x5 x6 : Int) : Good (n13_1 k a b x1 x2 x3 x4 x5 x6) := by
  unfold n13_1
  repeat' first | exact good_leaf (by simp) | apply good_cond
theorem alike_2 (k a b x1 x2 x3 x4 x5 x6 : Int) : n12_2 k a b x1 x2 x3 x4 x5 x6 = n13_2 k a b x1 x2 x3 x4 x5 x6 := by
  unfold n12_2 n13_2
  simp only [w01, w02, w12, n00, n01, n02, Int.toNat_zero, Int.toNat_one, List.getD_cons_zero, List.getD_cons_succ, cond_false, cond_true, Nat.add_zero, beq_self_eq_true, Bool.true_and, Bool.and_true]
  simp only [Bool.cond_eq_ite, Int.add_comm 32767, bne, Bool.not_and, Bool.or_eq_true, Bool.not_eq_true', beq_eq_false_iff_ne, ne_eq, decide_eq_true_eq, decide_eq_false_iff_not]
  repeat' split
  all_goals first | rfl | (exfalso; omega) | skip
theorem some_2 (k a b x1 x2 x3 x4 x5 x6 : Int) : Good (n13_2 k a b x1 x2 x3 x4 x5 x6) := by
  unfold n13_2
  repeat' first | exact good_leaf (by simp) | apply good_cond
theorem alike_3 (k a b x1 x2 x3 x4 x5 x6 : Int) : n12_3 k a b x1 x2 x3 x4 x5 x6 = n13_3 k a b x1 x2 x3 x4 x5 x6 := by
  unfold n12_3 n13_3
  simp only [w01, w02, w12, n00, n01, n02, Int.toNat_zero, Int.toNat_one, List.getD_cons_zero, List.getD_cons_succ, cond_false, cond_true, Nat.add_zero, beq_self_eq_true, Bool.true_and, Bool.and_true]
  simp only [Bool.cond_eq_ite, Int.add_comm 32767, bne, Bool.not_and, Bool.or_eq_true, Bool.not_eq_true', beq_eq_false_iff_ne, ne_eq, decide_eq_true_eq, decide_eq_false_iff_not]
  repeat' split
  all_goals first | rfl | (exfalso; omega) | skip
theorem some_3 (k a b x1 x2 x3 x4 x5 x6 : Int) : Good (n13_3 k a b x1 x2 x3 x4 x5 x6) := by
  unfold n13_3
  repeat' first | exact good_leaf (by simp) | apply good_cond
theorem alike_4 (k a b x1 x2 x3 x4 x5 x6 : Int) : n12_4 k a b x1 x2 x3 x4 x5 x6 = n13_4 k a b x1 x2 x3 x4 x5 x6 := by
  unfold n12_4 n13_4
  simp only [w01, w02, w12, n00, n01, n02, Int.toNat_zero, Int.toNat_one, List.getD_cons_zero, List.getD_cons_succ, cond_false, cond_true, Nat.add_zero, beq_self_eq_true, Bool.true_and, Bool.and_true]
  simp only [Bool.cond_eq_ite, Int.add_comm 32767, bne, Bool.not_and, Bool.or_eq_true, Bool.not_eq_true', beq_eq_false_iff_ne, ne_eq, decide_eq_true_eq, decide_eq_false_iff_not]
  repeat' split
  all_goals first | rfl | (exfalso; omega) | skip
theorem some_4 (k a b x1 x2 x3 x4 x5 x6 : Int) : Good (n13_4 k a b x1 x2 x3 x4 x5 x6) := by
  unfold n13_4
  repeat' first | exact good_leaf (by simp) | apply good_cond
set_option maxHeartbeats 4000000 in
theorem alike_5 (k a b x1 x2 x3 x4 x5 x6 : Int) : n12_5 k a b x1 x2 x3 x4 x5 x6 = n13_5 k a b x1 x2 x3 x4 x5 x6 := by
  unfold n12_5 n13_5
  simp only [w01, w02, w12, n00, n01, n02, Int.toNat_zero, Int.toNat_one, List.getD_cons_zero, List.getD_cons_succ, cond_false, cond_true, Nat.add_zero, beq_self_eq_true, Bool.true_and, Bool.and_true]
  simp only [Bool.cond_eq_ite, Int.add_comm 32767, bne, Bool.not_and, Bool.or_eq_true, Bool.not_eq_true', beq_eq_false_iff_ne, ne_eq, decide_eq_true_eq, decide_eq_false_iff_not]
  repeat' split
  all_goals first | rfl | (exfalso; omega) | skip
theorem some_5 (k a b x1 x2 x3 x4 x5 x6 : Int) : Good (n13_5 k a b x1 x2 x3 x4 x5 x6) := by
  unfold n13_5
  repeat' first | exact good_leaf (by simp) | apply good_cond
theorem alike_6 (k a b x1 x2 x3 x4 x5 x6 : Int) : n12_6 k a b x1 x2 x3 x4 x5 x6 = n13_6 k a b x1 x2 x3 x4 x5 x6 := by
  unfold n12_6 n13_6
  simp only [w01, w02, w12, n00, n01, n02, Int.toNat_zero, Int.toNat_one, List.getD_cons_zero, List.getD_cons_succ, cond_false, cond_true, Nat.add_zero, beq_self_eq_true, Bool.true_and, Bool.and_true]
  simp only [Bool.cond_eq_ite, Int.add_comm 32767, bne, Bool.not_and, Bool.or_eq_true, Bool.not_eq_true', beq_eq_false_iff_ne, ne_eq, decide_eq_true_eq, decide_eq_false_iff_not]
  repeat' split
  all_goals first | rfl | (exfalso; omega) | skip
theorem some_6 (k a b x1 x2 x3 x4 x5 x6 : Int) : Good (n13_6 k a b x1 x2 x3 x4 x5 x6) := by
  unfold n13_6
  repeat' first | exact good_leaf (by simp) | apply good_cond
set_option maxHeartbeats 4000000 in
theorem alike_7 (k a b x1 x2 x3 x4 x5 x6 : Int) : n12_7 k a b x1 x2 x3 x4 x5 x6 = n13_7 k a b x1 x2 x3 x4 x5 x6 := by
  unfold n12_7 n13_7
  simp only [w01, w02, w12, n00, n01, n02, Int.toNat_zero, Int.toNat_one, List.getD_cons_zero, List.getD_cons_succ, cond_false, cond_true, Nat.add_zero, beq_self_eq_true, Bool.true_and, Bool.and_true]
  simp only [Bool.cond_eq_ite, Int.add_comm 32767, bne, Bool.not_and, Bool.or_eq_true, Bool.not_eq_true', beq_eq_false_iff_ne, ne_eq, decide_eq_true_eq, decide_eq_false_iff_not]
  repeat' split
  all_goals first | rfl | (exfalso; omega) | skip
theorem some_7 (k a b x1 x2 x3 x4 x5 x6 : Int) : Good (n13_7 k a b x1 x2 x3 x4 x5 x6) := by
  unfold n13_7
  repeat' first | exact good_leaf (by simp) | apply good_cond

noncomputable def F12 (x : Sig.den [.agg tInstr]) : Option ResEnc := match e12u x.1 with
  | some y => some y
  | none => e12 x.1
noncomputable def F13 (x : Sig.den [.agg tInstr]) : Option ResEnc := match e13u x.1 with
  | some y => some y
  | none => e13 x.1

theorem fn12 : FnOK Try.prog 12 [.agg tInstr] [.row tW, .val tI] F12 := by
  intro x y hF
  unfold F12 at hF
  cases hu : e12u x.1 with
  | some z => rw [hu] at hF; cases hF; exact evalF_ok tt_ok mixed names callU_ok hu
  | none => rw [hu] at hF; exact evalF_ok tt_ok mixed names call0_ok hF

theorem fn13 : FnOK Try.prog 13 [.agg tInstr] [.row tW, .val tI] F13 := by
  intro x y hF
  unfold F13 at hF
  cases hu : e13u x.1 with
  | some z => rw [hu] at hF; cases hF; exact evalF_ok tt_ok mixed names callU_ok hu
  | none => rw [hu] at hF; exact evalF_ok tt_ok mixed names call0_ok hF

theorem F12_in {x : tInstr.den} (hu : e12u x = none) : F12 (x, ()) = e12 x := by
  show (match e12u x with | some y => some y | none => e12 x) = e12 x
  rw [hu]
theorem F13_in {x : tInstr.den} (hu : e13u x = none) : F13 (x, ()) = e13 x := by
  show (match e13u x with | some y => some y | none => e13 x) = e13 x
  rw [hu]
theorem F12_out {x : tInstr.den} {y : ResEnc} (hu : e12u x = some y) : F12 (x, ()) = some y := by
  show (match e12u x with | some y => some y | none => e12 x) = some y
  rw [hu]
theorem F13_out {x : tInstr.den} {y : ResEnc} (hu : e13u x = some y) : F13 (x, ()) = some y := by
  show (match e13u x with | some y => some y | none => e13 x) = some y
  rw [hu]

theorem in_of {k a b x1 x2 x3 x4 x5 x6 : Int} {n12 n13 : Option (List Int × Int × Unit)} (ho : outK k = false) (h1 : e12 (k, a, b, (x1, x2), (x3, x4), (x5, x6)) = n12) (h2 : e13 (k, a, b, (x1, x2), (x3, x4), (x5, x6)) = n13)
    (h3 : n12 = n13) (h4 : Good n13) :
    ∃ y : ResEnc, F12 ((k, a, b, (x1, x2), (x3, x4), (x5, x6)), ()) = some y ∧ F13 ((k, a, b, (x1, x2), (x3, x4), (x5, x6)), ()) = some y ∧ y.1.length ≤ 7 := by
  obtain ⟨y, h5, h6⟩ := h4
  refine ⟨y, (F12_in ?_).trans (h1.trans (h3.trans h5)), (F13_in ?_).trans (h2.trans h5), h6⟩
  · rw [e12u_eq, ho]; rfl
  · rw [e13u_eq, ho]; rfl

theorem enc_alike' (k a b x1 x2 x3 x4 x5 x6 : Int) (h0 : 0 ≤ k) (h1 : k ≤ 255) :
    ∃ y : ResEnc, F12 ((k, a, b, (x1, x2), (x3, x4), (x5, x6)), ()) = some y ∧ F13 ((k, a, b, (x1, x2), (x3, x4), (x5, x6)), ()) = some y ∧ y.1.length ≤ 7 := by
  cases ho : outK k with
  | true =>
    refine ⟨([], 2, ()), F12_out ?_, F13_out ?_, by simp⟩
    · rw [e12u_eq, ho]; rfl
    · rw [e13u_eq, ho]; rfl
  | false =>
    have hk : ¬ ((39 ≤ k ∧ k ≤ 255) ∨ k = 0) := fun h => by
      have : outK k = true := by simpa only [outK, Bool.or_eq_true, Bool.and_eq_true, decide_eq_true_eq] using h
      rw [this] at ho; cases ho
    have hc : k = 1 ∨ k = 2 ∨ k = 3 ∨ k = 4 ∨ k = 5 ∨ k = 6 ∨ k = 7 ∨ k = 8 ∨ k = 9 ∨ k = 10 ∨ k = 11 ∨ k = 12 ∨ k = 13 ∨ k = 14 ∨ k = 15 ∨ k = 16 ∨ k = 17 ∨ k = 18 ∨ k = 19 ∨ k = 20 ∨ k = 21 ∨ k = 22 ∨ k = 23 ∨ k = 24 ∨ k = 25 ∨ k = 26 ∨ k = 27 ∨ k = 28 ∨ k = 29 ∨ k = 30 ∨ k = 31 ∨ k = 32 ∨ k = 33 ∨ k = 34 ∨ k = 35 ∨ k = 36 ∨ k = 37 ∨ k = 38 := by omega
    rcases hc with rfl | rfl | rfl | rfl | rfl | rfl | rfl | rfl | rfl | rfl | rfl | rfl | rfl | rfl | rfl | rfl | rfl | rfl | rfl | rfl | rfl | rfl | rfl | rfl | rfl | rfl | rfl | rfl | rfl | rfl | rfl | rfl | rfl | rfl | rfl | rfl | rfl | rfl
    · exact in_of ho (e12_1 a b x1 x2 x3 x4 x5 x6) (e13_1 a b x1 x2 x3 x4 x5 x6) (alike_1 1 a b x1 x2 x3 x4 x5 x6) (some_1 1 a b x1 x2 x3 x4 x5 x6)
    · exact in_of ho (e12_2 a b x1 x2 x3 x4 x5 x6) (e13_2 a b x1 x2 x3 x4 x5 x6) (alike_1 2 a b x1 x2 x3 x4 x5 x6) (some_1 2 a b x1 x2 x3 x4 x5 x6)
    · exact in_of ho (e12_3 a b x1 x2 x3 x4 x5 x6) (e13_3 a b x1 x2 x3 x4 x5 x6) (alike_1 3 a b x1 x2 x3 x4 x5 x6) (some_1 3 a b x1 x2 x3 x4 x5 x6)
    · exact in_of ho (e12_4 a b x1 x2 x3 x4 x5 x6) (e13_4 a b x1 x2 x3 x4 x5 x6) (alike_1 4 a b x1 x2 x3 x4 x5 x6) (some_1 4 a b x1 x2 x3 x4 x5 x6)
    · exact in_of ho (e12_5 a b x1 x2 x3 x4 x5 x6) (e13_5 a b x1 x2 x3 x4 x5 x6) (alike_6 5 a b x1 x2 x3 x4 x5 x6) (some_6 5 a b x1 x2 x3 x4 x5 x6)
    · exact in_of ho (e12_6 a b x1 x2 x3 x4 x5 x6) (e13_6 a b x1 x2 x3 x4 x5 x6) (alike_7 6 a b x1 x2 x3 x4 x5 x6) (some_7 6 a b x1 x2 x3 x4 x5 x6)
    · exact in_of ho (e12_7 a b x1 x2 x3 x4 x5 x6) (e13_7 a b x1 x2 x3 x4 x5 x6) (alike_0 7 a b x1 x2 x3 x4 x5 x6) (some_0 7 a b x1 x2 x3 x4 x5 x6)
    · exact in_of ho (e12_8 a b x1 x2 x3 x4 x5 x6) (e13_8 a b x1 x2 x3 x4 x5 x6) (alike_0 8 a b x1 x2 x3 x4 x5 x6) (some_0 8 a b x1 x2 x3 x4 x5 x6)
    · exact in_of ho (e12_9 a b x1 x2 x3 x4 x5 x6) (e13_9 a b x1 x2 x3 x4 x5 x6) (alike_0 9 a b x1 x2 x3 x4 x5 x6) (some_0 9 a b x1 x2 x3 x4 x5 x6)
    · exact in_of ho (e12_10 a b x1 x2 x3 x4 x5 x6) (e13_10 a b x1 x2 x3 x4 x5 x6) (alike_0 10 a b x1 x2 x3 x4 x5 x6) (some_0 10 a b x1 x2 x3 x4 x5 x6)
    · exact in_of ho (e12_11 a b x1 x2 x3 x4 x5 x6) (e13_11 a b x1 x2 x3 x4 x5 x6) (alike_0 11 a b x1 x2 x3 x4 x5 x6) (some_0 11 a b x1 x2 x3 x4 x5 x6)
    · exact in_of ho (e12_12 a b x1 x2 x3 x4 x5 x6) (e13_12 a b x1 x2 x3 x4 x5 x6) (alike_0 12 a b x1 x2 x3 x4 x5 x6) (some_0 12 a b x1 x2 x3 x4 x5 x6)
    · exact in_of ho (e12_13 a b x1 x2 x3 x4 x5 x6) (e13_13 a b x1 x2 x3 x4 x5 x6) (alike_0 13 a b x1 x2 x3 x4 x5 x6) (some_0 13 a b x1 x2 x3 x4 x5 x6)
    · exact in_of ho (e12_14 a b x1 x2 x3 x4 x5 x6) (e13_14 a b x1 x2 x3 x4 x5 x6) (alike_0 14 a b x1 x2 x3 x4 x5 x6) (some_0 14 a b x1 x2 x3 x4 x5 x6)
    · exact in_of ho (e12_15 a b x1 x2 x3 x4 x5 x6) (e13_15 a b x1 x2 x3 x4 x5 x6) (alike_0 15 a b x1 x2 x3 x4 x5 x6) (some_0 15 a b x1 x2 x3 x4 x5 x6)
    · exact in_of ho (e12_16 a b x1 x2 x3 x4 x5 x6) (e13_16 a b x1 x2 x3 x4 x5 x6) (alike_0 16 a b x1 x2 x3 x4 x5 x6) (some_0 16 a b x1 x2 x3 x4 x5 x6)
    · exact in_of ho (e12_17 a b x1 x2 x3 x4 x5 x6) (e13_17 a b x1 x2 x3 x4 x5 x6) (alike_0 17 a b x1 x2 x3 x4 x5 x6) (some_0 17 a b x1 x2 x3 x4 x5 x6)
    · exact in_of ho (e12_18 a b x1 x2 x3 x4 x5 x6) (e13_18 a b x1 x2 x3 x4 x5 x6) (alike_0 18 a b x1 x2 x3 x4 x5 x6) (some_0 18 a b x1 x2 x3 x4 x5 x6)
    · exact in_of ho (e12_19 a b x1 x2 x3 x4 x5 x6) (e13_19 a b x1 x2 x3 x4 x5 x6) (alike_2 19 a b x1 x2 x3 x4 x5 x6) (some_2 19 a b x1 x2 x3 x4 x5 x6)
    · exact in_of ho (e12_20 a b x1 x2 x3 x4 x5 x6) (e13_20 a b x1 x2 x3 x4 x5 x6) (alike_0 20 a b x1 x2 x3 x4 x5 x6) (some_0 20 a b x1 x2 x3 x4 x5 x6)
    · exact in_of ho (e12_21 a b x1 x2 x3 x4 x5 x6) (e13_21 a b x1 x2 x3 x4 x5 x6) (alike_0 21 a b x1 x2 x3 x4 x5 x6) (some_0 21 a b x1 x2 x3 x4 x5 x6)
    · exact in_of ho (e12_22 a b x1 x2 x3 x4 x5 x6) (e13_22 a b x1 x2 x3 x4 x5 x6) (alike_0 22 a b x1 x2 x3 x4 x5 x6) (some_0 22 a b x1 x2 x3 x4 x5 x6)
    · exact in_of ho (e12_23 a b x1 x2 x3 x4 x5 x6) (e13_23 a b x1 x2 x3 x4 x5 x6) (alike_0 23 a b x1 x2 x3 x4 x5 x6) (some_0 23 a b x1 x2 x3 x4 x5 x6)
    · exact in_of ho (e12_24 a b x1 x2 x3 x4 x5 x6) (e13_24 a b x1 x2 x3 x4 x5 x6) (alike_0 24 a b x1 x2 x3 x4 x5 x6) (some_0 24 a b x1 x2 x3 x4 x5 x6)
    · exact in_of ho (e12_25 a b x1 x2 x3 x4 x5 x6) (e13_25 a b x1 x2 x3 x4 x5 x6) (alike_0 25 a b x1 x2 x3 x4 x5 x6) (some_0 25 a b x1 x2 x3 x4 x5 x6)
    · exact in_of ho (e12_26 a b x1 x2 x3 x4 x5 x6) (e13_26 a b x1 x2 x3 x4 x5 x6) (alike_2 26 a b x1 x2 x3 x4 x5 x6) (some_2 26 a b x1 x2 x3 x4 x5 x6)
    · exact in_of ho (e12_27 a b x1 x2 x3 x4 x5 x6) (e13_27 a b x1 x2 x3 x4 x5 x6) (alike_0 27 a b x1 x2 x3 x4 x5 x6) (some_0 27 a b x1 x2 x3 x4 x5 x6)
    · exact in_of ho (e12_28 a b x1 x2 x3 x4 x5 x6) (e13_28 a b x1 x2 x3 x4 x5 x6) (alike_0 28 a b x1 x2 x3 x4 x5 x6) (some_0 28 a b x1 x2 x3 x4 x5 x6)
    · exact in_of ho (e12_29 a b x1 x2 x3 x4 x5 x6) (e13_29 a b x1 x2 x3 x4 x5 x6) (alike_3 29 a b x1 x2 x3 x4 x5 x6) (some_3 29 a b x1 x2 x3 x4 x5 x6)
    · exact in_of ho (e12_30 a b x1 x2 x3 x4 x5 x6) (e13_30 a b x1 x2 x3 x4 x5 x6) (alike_0 30 a b x1 x2 x3 x4 x5 x6) (some_0 30 a b x1 x2 x3 x4 x5 x6)
    · exact in_of ho (e12_31 a b x1 x2 x3 x4 x5 x6) (e13_31 a b x1 x2 x3 x4 x5 x6) (alike_1 31 a b x1 x2 x3 x4 x5 x6) (some_1 31 a b x1 x2 x3 x4 x5 x6)
    · exact in_of ho (e12_32 a b x1 x2 x3 x4 x5 x6) (e13_32 a b x1 x2 x3 x4 x5 x6) (alike_1 32 a b x1 x2 x3 x4 x5 x6) (some_1 32 a b x1 x2 x3 x4 x5 x6)
    · exact in_of ho (e12_33 a b x1 x2 x3 x4 x5 x6) (e13_33 a b x1 x2 x3 x4 x5 x6) (alike_4 33 a b x1 x2 x3 x4 x5 x6) (some_4 33 a b x1 x2 x3 x4 x5 x6)
    · exact in_of ho (e12_34 a b x1 x2 x3 x4 x5 x6) (e13_34 a b x1 x2 x3 x4 x5 x6) (alike_4 34 a b x1 x2 x3 x4 x5 x6) (some_4 34 a b x1 x2 x3 x4 x5 x6)
    · exact in_of ho (e12_35 a b x1 x2 x3 x4 x5 x6) (e13_35 a b x1 x2 x3 x4 x5 x6) (alike_4 35 a b x1 x2 x3 x4 x5 x6) (some_4 35 a b x1 x2 x3 x4 x5 x6)
    · exact in_of ho (e12_36 a b x1 x2 x3 x4 x5 x6) (e13_36 a b x1 x2 x3 x4 x5 x6) (alike_4 36 a b x1 x2 x3 x4 x5 x6) (some_4 36 a b x1 x2 x3 x4 x5 x6)
    · exact in_of ho (e12_37 a b x1 x2 x3 x4 x5 x6) (e13_37 a b x1 x2 x3 x4 x5 x6) (alike_5 37 a b x1 x2 x3 x4 x5 x6) (some_5 37 a b x1 x2 x3 x4 x5 x6)
    · exact in_of ho (e12_38 a b x1 x2 x3 x4 x5 x6) (e13_38 a b x1 x2 x3 x4 x5 x6) (alike_0 38 a b x1 x2 x3 x4 x5 x6) (some_0 38 a b x1 x2 x3 x4 x5 x6)

theorem enc_alike (x : tInstr.den) (h0 : 0 ≤ x.1) (h1 : x.1 ≤ 255) : ∃ y : ResEnc, F12 (x, ()) = some y ∧ F13 (x, ()) = some y ∧ y.1.length ≤ 7 := by
  obtain ⟨k, a, b, ⟨x1, x2⟩, ⟨x3, x4⟩, ⟨x5, x6⟩⟩ := x
  exact enc_alike' k a b x1 x2 x3 x4 x5 x6 h0 h1
end Go.Pv
