/-
  The ground of the proof, part 5: The same for vectors and matrices. What the reference of the interpreter's small functions compute: as the code says it. The reference's results are the plain ones. The reference's Valid. The reference's Wrong, form by form: as the code says it. The reference's Wrong on plain data. The reference's Step, form by form: as the code says it. The reference's Wrong answers as the plain text says. The reference's Wrong: its answer, for every instruction. The reference's Step on plain data. What an instruction computes depends on the values alone; its results are canonical. The reference's step on plain data is the program's step on plain data. The reference's Step computes what the plain text says. What a step leaves stays in range. SameRegs, SameWords, SameCells: registers, words, cells are the same as themselves; what is known of a function with one plain result, told in the other form. The reference's Memory, Run and Need, of what is known of a step and of decoding: as the code says it. The reference's Memory, Run and Need compute what the plain text says. The laws InterpSteps and InterpRuns, run with what is known of their callees.
-/
import Derived.Test.YtdfbjdchnkhiiaaGreatDoorL4
/-! ### The same for vectors and matrices. -/
namespace Go.Nv
theorem blen_double {m : Int} (h : 1 ≤ m) : blen (2 * m) = blen m + 1 := by
  unfold blen
  rw [if_neg (by omega), if_neg (by omega)]
  have e : (2 * m).toNat = 2 * m.toNat := by omega
  rw [e, Nat.log2_def (2 * m.toNat), if_pos (by omega), Nat.mul_div_cancel_left _ (by omega)]
  omega
theorem blen_top {m : Int} (h : 134217728 ≤ m) (h2 : m ≤ 268435455) : blen m = 28 := by
  obtain ⟨a, b, c⟩ := blen_spec (n := m) (by omega)
  have r := blen_range (n := m) (by omega) h2
  have : ¬ Nat.log2 m.toNat + 1 ≤ 27 := fun hh => by
    have := p2_le (k := Nat.log2 m.toNat + 1) (m := 27) hh
    have e : (2 : Int) ^ 27 = 134217728 := by decide
    omega
  omega
theorem blen_mono {a b : Int} (h : a ≤ b) : blen a ≤ blen b := by
  by_cases ha : a ≤ 0
  · unfold blen; rw [if_pos ha]; split <;> omega
  · obtain ⟨a1, a2, a3⟩ := blen_spec (n := a) (by omega)
    obtain ⟨b1, b2, b3⟩ := blen_spec (n := b) (by omega)
    have : ¬ Nat.log2 b.toNat + 1 ≤ Nat.log2 a.toNat := fun hh => by
      have := p2_le (k := Nat.log2 b.toNat + 1) (m := Nat.log2 a.toNat) hh
      omega
    omega
end Go.Nv
namespace Go.Pv
open Go.Proofs
set_option maxRecDepth 1000000
theorem on3_eq {α : Type} {p : Vc} (h : wd3B p = true) (k : Option α) : on3 gH p k = k := by
  obtain ⟨a, b, c⟩ := wd3B_iff.1 h
  unfold on3
  rw [show gH.dV p.1 = true from a, show gH.dV p.2.1 = true from b, show gH.dV p.2.2 = true from c]
  rfl
/-- all but the dot product -/
theorem okH8 {on : List Nat} (hn : hasN 110 on = false) (R : Type) : CallsOK Tryz.prog (callH on gH R) := callH_ok (fun R f s hf hs => by
  unfold specsH' at hs
  split at hs
  · cases hs; exact specD_ok h35 flat_int (cntN 35 (by kernel_rfl))
  · cases hs; exact specD_ok h106 flatD (cntN 106 (by kernel_rfl))
  · cases hs; exact specD_ok h130 flat_int (cntN 130 (by kernel_rfl))
  · cases hs; exact specD_ok h136 flat_int (cntN 136 (by kernel_rfl))
  · cases hs; exact specD_ok h134 flat_int (cntN 134 (by kernel_rfl))
  · cases hs; exact specD_ok h117 flatDB (cntN 117 (by kernel_rfl))
  · cases hs; exact specD_ok h121 flatDB (cntN 121 (by kernel_rfl))
  · cases hs; exact specD_ok h107 flatD (cntN 107 (by kernel_rfl))
  · rw [hn] at hf; cases hf
  · cases hs) R
theorem dotH_eq (p a : Vc) : dotH gH p a = Nv.dotV p a := by
  have h1 := Nv.mul_in (Nv.V_in p.1) (Nv.V_in a.1)
  have h2 := Nv.mul_in (Nv.V_in p.2.1) (Nv.V_in a.2.1)
  have h3 := Nv.mul_in (Nv.V_in p.2.2) (Nv.V_in a.2.2)
  show w64 (w64 (w64 (Nv.V p.1 * Nv.V a.1) + w64 (Nv.V p.2.1 * Nv.V a.2.1)) + w64 (Nv.V p.2.2 * Nv.V a.2.2)) = _
  rw [w64_small (k := Nv.V p.1 * Nv.V a.1) (by omega) (by omega), w64_small (k := Nv.V p.2.1 * Nv.V a.2.1) (by omega) (by omega), w64_small (k := Nv.V p.2.2 * Nv.V a.2.2) (by omega) (by omega),
    w64_small (k := Nv.V p.1 * Nv.V a.1 + Nv.V p.2.1 * Nv.V a.2.1) (by omega) (by omega), w64_small (by omega) (by omega)]
  rfl
theorem h110 : FnOK Tryz.prog 110 sVV rDB fun x => bif gH.dV3 x.1 && gH.dV3 x.2.1 then some ((gH.dot x.1 x.2.1).1, (gH.dot x.1 x.2.1).2, ()) else none := fnDom fun x hx => by
  obtain ⟨p, a, ⟨⟩⟩ := x
  have hx := Bool.and_eq_true_iff.1 hx
  refine ⟨_, okH8 (by decide), [], (h110_eq gH p a).trans ?_⟩
  have hd := Nv.dotV_in p a
  rw [on3_eq hx.1, on3_eq hx.2, dotH_eq, qH_eq (by omega)]
  rfl
theorem okHV {on : List Nat} (R : Type) : CallsOK Tryz.prog (callH on gH R) := callH_ok (fun R f s _ hs => by
  unfold specsH' at hs
  split at hs
  · cases hs; exact specD_ok h35 flat_int (cntN 35 (by kernel_rfl))
  · cases hs; exact specD_ok h106 flatD (cntN 106 (by kernel_rfl))
  · cases hs; exact specD_ok h130 flat_int (cntN 130 (by kernel_rfl))
  · cases hs; exact specD_ok h136 flat_int (cntN 136 (by kernel_rfl))
  · cases hs; exact specD_ok h134 flat_int (cntN 134 (by kernel_rfl))
  · cases hs; exact specD_ok h117 flatDB (cntN 117 (by kernel_rfl))
  · cases hs; exact specD_ok h121 flatDB (cntN 121 (by kernel_rfl))
  · cases hs; exact specD_ok h107 flatD (cntN 107 (by kernel_rfl))
  · cases hs; exact specD_ok h110 flatDB (cntN 110 (by kernel_rfl))
  · cases hs) R
/-! ### Sums -/
def vsum (p a : Vc) (s : Int) : Vc × Bool := if s = 1 then Nv.vadd p a else Nv.vsub p a
def dSum (p a : Vc) (s : Int) : Bool := wd3B p && (wd3B a && (decide (s = 1) || decide (s = -1)))
theorem v108 (p a : Vc) (s : Int) (hx : dSum p a s = true) : Evs 108 [.agg tVec, .agg tVec, .val tI] rVB (p, a, s, ()) ((vsum p a s).1, (vsum p a s).2, ()) := by
  simp only [dSum, Bool.and_eq_true, Bool.or_eq_true, decide_eq_true_eq] at hx
  obtain ⟨hp, ha, hs⟩ := hx
  refine ⟨_, okHV (on := [35, 117]), [], (h108_eq gH p a s).trans ?_⟩
  have p1 := Nv.V_in p.1; have p2 := Nv.V_in p.2.1; have p3 := Nv.V_in p.2.2
  have a1 := Nv.V_in a.1; have a2 := Nv.V_in a.2.1; have a3 := Nv.V_in a.2.2
  unfold Nv.In at p1 p2 p3 a1 a2 a3
  rw [on3_eq hp, on3_eq ha, eachK_eq]
  show some (((Nv.clD (w64 (Nv.V p.1 + w64 (s * Nv.V a.1)))).1, (Nv.clD (w64 (Nv.V p.2.1 + w64 (s * Nv.V a.2.1)))).1, (Nv.clD (w64 (Nv.V p.2.2 + w64 (s * Nv.V a.2.2)))).1),
    (((Nv.clD (w64 (Nv.V p.1 + w64 (s * Nv.V a.1)))).2 || (Nv.clD (w64 (Nv.V p.2.1 + w64 (s * Nv.V a.2.1)))).2) || (Nv.clD (w64 (Nv.V p.2.2 + w64 (s * Nv.V a.2.2)))).2), ()) = _
  unfold vsum
  rcases hs with rfl | rfl
  · rw [Int.one_mul, Int.one_mul, Int.one_mul, w64_small (k := Nv.V a.1) (by omega) (by omega), w64_small (k := Nv.V a.2.1) (by omega) (by omega), w64_small (k := Nv.V a.2.2) (by omega) (by omega),
      w64_small (k := Nv.V p.1 + Nv.V a.1) (by omega) (by omega), w64_small (k := Nv.V p.2.1 + Nv.V a.2.1) (by omega) (by omega), w64_small (k := Nv.V p.2.2 + Nv.V a.2.2) (by omega) (by omega)]
    rfl
  · rw [Int.neg_mul, Int.neg_mul, Int.neg_mul, Int.one_mul, Int.one_mul, Int.one_mul, w64_small (k := -Nv.V a.1) (by omega) (by omega), w64_small (k := -Nv.V a.2.1) (by omega) (by omega), w64_small (k := -Nv.V a.2.2) (by omega) (by omega),
      w64_small (k := Nv.V p.1 + -Nv.V a.1) (by omega) (by omega), w64_small (k := Nv.V p.2.1 + -Nv.V a.2.1) (by omega) (by omega), w64_small (k := Nv.V p.2.2 + -Nv.V a.2.2) (by omega) (by omega)]
    rfl
theorem h108 : FnOK Tryz.prog 108 [.agg tVec, .agg tVec, .val tI] rVB fun x => bif dSum x.1 x.2.1 x.2.2.1 then some ((vsum x.1 x.2.1 x.2.2.1).1, (vsum x.1 x.2.1 x.2.2.1).2, ()) else none := fnDom fun x hx => v108 x.1 x.2.1 x.2.2.1 hx
theorem h72 : FnOK Tryz.prog 72 [.agg tVec, .agg tD] sV1 fun x => bif wd3B x.1 && wdB x.2.1 then some (Nv.scale x.1 x.2.1, ()) else none := fnDom fun x hx => by
  obtain ⟨p, k, ⟨⟩⟩ := x
  have hx := Bool.and_eq_true_iff.1 hx
  obtain ⟨a, b, c⟩ := wd3B_iff.1 hx.1
  refine ⟨_, okHV (on := [107]), [], (h72_eq gH p k).trans ?_⟩
  rw [show gH.dV p.1 = true from a, show gH.dV p.2.1 = true from b, show gH.dV p.2.2 = true from c, show gH.dV k = true from hx.2]
  rfl
theorem h112 : FnOK Tryz.prog 112 [.agg tVec, .val tI] rVB fun x => bif wd3B x.1 then some ((Nv.vshift x.1 x.2.1).1, (Nv.vshift x.1 x.2.1).2, ()) else none := fnDom fun x hx => by
  obtain ⟨p, n, ⟨⟩⟩ := x
  refine ⟨_, okHV (on := [121]), [], (h112_eq gH p n).trans ?_⟩
  rw [on3_eq hx, eachK_eq]
  rfl
theorem minorH_eq (a b c d : Db) : minor (Nv.V a) (Nv.V b) (Nv.V c) (Nv.V d) = Nv.V a * Nv.V b - Nv.V c * Nv.V d := by
  have := minor_nv a b c d
  simp only [Vd_nv] at this
  exact this
theorem h111 : FnOK Tryz.prog 111 sVV rVB fun x => bif wd3B x.1 && wd3B x.2.1 then some ((Nv.cross x.1 x.2.1).1, (Nv.cross x.1 x.2.1).2, ()) else none := fnDom fun x hx => by
  obtain ⟨p, a, ⟨⟩⟩ := x
  have hx := Bool.and_eq_true_iff.1 hx
  refine ⟨_, okHV (on := [35, 130, 117]), [], (h111_eq gH p a).trans ?_⟩
  have mb : ∀ a b c d : Db, -4611686018427387904 ≤ Nv.V a * Nv.V b - Nv.V c * Nv.V d ∧ Nv.V a * Nv.V b - Nv.V c * Nv.V d ≤ 4611686018427387904 := fun a b c d => by
    have h1 := Nv.mul_in (Nv.V_in a) (Nv.V_in b)
    have h2 := Nv.mul_in (Nv.V_in c) (Nv.V_in d)
    omega
  rw [on3_eq hx.1, on3_eq hx.2]
  show qH gH (minor (Nv.V p.2.1) (Nv.V a.2.2) (Nv.V p.2.2) (Nv.V a.2.1)) (fun x => qH gH (minor (Nv.V p.2.2) (Nv.V a.1) (Nv.V p.1) (Nv.V a.2.2)) fun y => qH gH (minor (Nv.V p.1) (Nv.V a.2.1) (Nv.V p.2.1) (Nv.V a.1)) fun z =>
      eachK (Nv.clD x) (Nv.clD y) (Nv.clD z) fun v o => some (v, o, ())) = _
  rw [minorH_eq, minorH_eq, minorH_eq, qH_eq (mb _ _ _ _), qH_eq (mb _ _ _ _), qH_eq (mb _ _ _ _), eachK_eq]
  rfl
theorem h113 : FnOK Tryz.prog 113 sV1 rDB fun x => bif wd3B x.1 then some ((Nv.length x.1).1, (Nv.length x.1).2, ()) else none := fnDom fun x hx => by
  obtain ⟨p, ⟨⟩⟩ := x
  refine ⟨_, okHV (on := [35, 134, 117]), [], (h113_eq gH p).trans ?_⟩
  have h0 := dotV_self_nonneg p
  have h1 := Nv.dotV_in p p
  rw [on3_eq hx, on3_eq hx, dotH_eq]
  show onlyN (dRt (Nv.dotV p p)) _ = _
  rw [dRt_iff.2 (by omega)]
  rfl
def wdM (m : Mt) : Bool := wd3B m.1 && (wd3B m.2.1 && wd3B m.2.2)
theorem wdM_iff {m : Mt} : wdM m = true ↔ wd3B m.1 = true ∧ wd3B m.2.1 = true ∧ wd3B m.2.2 = true := by simp only [wdM, Bool.and_eq_true]
theorem h115 : FnOK Tryz.prog 115 [.agg tMat, .agg tVec] rVB fun x => bif wdM x.1 && wd3B x.2.1 then some ((Nv.times x.1 x.2.1).1, (Nv.times x.1 x.2.1).2, ()) else none := fnDom fun x hx => by
  obtain ⟨m, p, ⟨⟩⟩ := x
  have hx := Bool.and_eq_true_iff.1 hx
  obtain ⟨a, b, c⟩ := wdM_iff.1 hx.1
  refine ⟨_, okHV (on := [110]), [], (h115_eq gH m p).trans ?_⟩
  rw [show gH.dV3 m.1 = true from a, show gH.dV3 m.2.1 = true from b, show gH.dV3 m.2.2 = true from c, show gH.dV3 p = true from hx.2, eachK_eq]
  rfl
theorem cD_eq {α : Type} {p : Db} (h : wdB p = true) (k : Db → Option α) : cD gH p k = k (Nv.canon p) := by
  unfold cD
  rw [show gH.dV p = true from h, show gH.dD (gH.V p) = true from dIn_iff.2 (Nv.V_in p)]
  rfl
theorem h116 : FnOK Tryz.prog 116 [.agg tMat] [.agg tMat] fun x => bif wdM x.1 then some (Nv.trans x.1, ()) else none := fnDom fun x hx => by
  obtain ⟨m, ⟨⟩⟩ := x
  obtain ⟨a, b, c⟩ := wdM_iff.1 hx
  obtain ⟨a1, a2, a3⟩ := wd3B_iff.1 a
  obtain ⟨b1, b2, b3⟩ := wd3B_iff.1 b
  obtain ⟨c1, c2, c3⟩ := wd3B_iff.1 c
  refine ⟨_, okHV (on := [35, 106]), [], (h116_eq gH m).trans ?_⟩
  rw [cD_eq a1, cD_eq b1, cD_eq c1, cD_eq a2, cD_eq b2, cD_eq c2, cD_eq a3, cD_eq b3, cD_eq c3]
  rfl
/-! ### Unit -/
theorem sun_lim (u : Vc) : ∀ (k : Nat) (x y z m : Int), (-m ≤ x ∧ x ≤ m) ∧ (-m ≤ y ∧ y ≤ m) ∧ (-m ≤ z ∧ z ≤ m) → 1 ≤ m → m ≤ 268435455 → (k : Int) = 28 - Nv.blen m → lim (Sun gH) (u, (x, y, z), m, ()) = some (.inl (u, (x * 2 ^ k, y * 2 ^ k, z * 2 ^ k), ()))
  | 0, x, y, z, m, _, h1, h2, hk => by
    refine lim_end ?_
    have : ¬ m < 134217728 := fun h => by
      have := Nv.blen_double h1
      have := (Nv.blen_range (n := 2 * m) (by omega) (by omega)).2
      omega
    rw [Sun_eq, decide_eq_false this, cond_false, Int.pow_zero, Int.mul_one, Int.mul_one, Int.mul_one]
  | k + 1, x, y, z, m, hv, h1, h2, hk => by
    have hm : m < 134217728 := by
      apply Decidable.byContradiction
      intro h
      have := Nv.blen_top (m := m) (by omega) h2
      omega
    have hs : Sun gH (u, (x, y, z), m, ()) = some (.inl (u, (2 * x, 2 * y, 2 * z), 2 * m, ())) := by
      rw [Sun_eq, decide_eq_true hm, cond_true, w64_small (k := 2 * x) (by omega) (by omega), w64_small (k := 2 * y) (by omega) (by omega), w64_small (k := 2 * z) (by omega) (by omega), w64_small (k := 2 * m) (by omega) (by omega)]
    have e : ∀ v : Int, v * 2 ^ (k + 1) = 2 * v * 2 ^ k := fun v => by rw [Int.pow_succ, Int.mul_comm 2 v, Int.mul_assoc, Int.mul_comm 2]
    have hb := Nv.blen_double h1
    rw [lim_next hs, e, e, e]
    exact sun_lim u k (2 * x) (2 * y) (2 * z) (2 * m) (by omega) (by omega) (by omega) (by omega)
theorem max3_eq (a b c : Int) : max3 a b c = max (max a b) c := by
  unfold max3; split <;> split <;> omega
theorem cnt_max {p : Vc} : Nv.cnt p = 28 - Nv.blen (max (max (Nv.mag (Nv.V p.1)) (Nv.mag (Nv.V p.2.1))) (Nv.mag (Nv.V p.2.2))) := by
  have h1 := mag_range (Nv.V_in p.1); have h2 := mag_range (Nv.V_in p.2.1); have h3 := mag_range (Nv.V_in p.2.2)
  have e : ∀ v c : Int, c ≤ 28 → 0 ≤ Nv.mag v → Nv.mag v ≤ 268435455 → Nv.cnt1 v c = min c (28 - Nv.blen (Nv.mag v)) := fun v c hc _ _ => by
    unfold Nv.cnt1
    by_cases hv : v = 0
    · subst hv
      have : Nv.blen (Nv.mag 0) = 0 := rfl
      rw [if_pos rfl, this]; omega
    · rw [if_neg hv]
  have r1 := Nv.blen_range h1.1 h1.2.1; have r2 := Nv.blen_range h2.1 h2.2.1; have r3 := Nv.blen_range h3.1 h3.2.1
  unfold Nv.cnt
  rw [e (Nv.V p.1) 28 (by omega) h1.1 h1.2.1, e (Nv.V p.2.1) _ (by omega) h2.1 h2.2.1, e (Nv.V p.2.2) _ (by omega) h3.1 h3.2.1]
  generalize Nv.mag (Nv.V p.1) = a at *
  generalize Nv.mag (Nv.V p.2.1) = b at *
  generalize Nv.mag (Nv.V p.2.2) = c at *
  have m1 : a ≤ b → Nv.blen a ≤ Nv.blen b := Nv.blen_mono
  have m2 : b ≤ a → Nv.blen b ≤ Nv.blen a := Nv.blen_mono
  have m3 : a ≤ c → Nv.blen a ≤ Nv.blen c := Nv.blen_mono
  have m4 : c ≤ a → Nv.blen c ≤ Nv.blen a := Nv.blen_mono
  have m5 : b ≤ c → Nv.blen b ≤ Nv.blen c := Nv.blen_mono
  have m6 : c ≤ b → Nv.blen c ≤ Nv.blen b := Nv.blen_mono
  rcases Int.le_total a b with h | h
  · rw [Int.max_eq_right h]
    rcases Int.le_total b c with h' | h'
    · rw [Int.max_eq_right h']; omega
    · rw [Int.max_eq_left h']; omega
  · rw [Int.max_eq_left h]
    rcases Int.le_total a c with h' | h'
    · rw [Int.max_eq_right h']; omega
    · rw [Int.max_eq_left h']; omega
theorem uQ_eq {α : Type} {x r : Int} (hx : Nv.In x) (hr : 0 < r) (hr2 : r ≤ 2147483648) (h1 : -r ≤ x) (h2 : x ≤ r) (k : Db → Option α) : uQ gH x r k = k (Nv.D (Nv.cl (Nv.rq (x * 134217728) r)).1) := by
  unfold Nv.In at hx
  have hb := Nv.rq_bound (p := x * 134217728) (q := r) (b := 134217728) hr (by omega) (by omega)
  have hi : Nv.In (Nv.rq (x * 134217728) r) := by unfold Nv.In; omega
  unfold uQ
  rw [w64_small (by omega) (by omega), show gH.dQ (x * 134217728) r = true from dq_iff.2 (by omega), show gH.dD (gH.Q (x * 134217728) r) = true from dIn_iff.2 hi, Nv.cl_id hi]
  rfl
theorem root_ge {n x : Int} (h0 : 0 ≤ n) (h : n < 4611686018427387904) (hx : x * x ≤ n) : -Nv.root n ≤ x ∧ x ≤ Nv.root n := by
  obtain ⟨_, a⟩ := Nv.root_spec h0 h
  have hr := (Nv.root_nonneg n).1
  constructor
  · by_cases hz : 0 ≤ x
    · omega
    · have := Nv.sq_lt_of (a := -x) (b := Nv.root n + 1) (by omega) (by omega) (by rw [Int.neg_mul_neg]; omega)
      omega
  · by_cases hz : 0 ≤ x
    · have := Nv.sq_lt_of (a := x) (b := Nv.root n + 1) hz (by omega) (by omega)
      omega
    · omega
theorem unR_eq {x y z : Int} (hx : Nv.In x) (hy : Nv.In y) (hz : Nv.In z) (hn : ¬ (x = 0 ∧ y = 0 ∧ z = 0)) : unR gH (x, y, z) = some (Nv.unitR x y z, false, ()) := by
  have qx := Nv.mul_in hx hx; have qy := Nv.mul_in hy hy; have qz := Nv.mul_in hz hz
  have sx := Nv.mul_self_nonneg x; have sy := Nv.mul_self_nonneg y; have sz := Nv.mul_self_nonneg z
  have hpos : 0 < x * x + y * y + z * z := by
    by_cases a : x = 0
    · by_cases b : y = 0
      · have := sq_pos (x := z) (fun e => hn ⟨a, b, e⟩); omega
      · have := sq_pos b; omega
    · have := sq_pos a; omega
  have es : sq3 (x, y, z) = x * x + y * y + z * z := by
    unfold sq3
    simp only
    rw [w64_small (k := x * x) (by omega) (by omega), w64_small (k := y * y) (by omega) (by omega), w64_small (k := z * z) (by omega) (by omega), w64_small (k := x * x + y * y) (by omega) (by omega), w64_small (by omega) (by omega)]
  have hr := Nv.root_pos hpos (by omega)
  have hr2 := (Nv.root_nonneg (x * x + y * y + z * z)).2
  have gx := root_ge (n := x * x + y * y + z * z) (x := x) (by omega) (by omega) (by omega)
  have gy := root_ge (n := x * x + y * y + z * z) (x := y) (by omega) (by omega) (by omega)
  have gz := root_ge (n := x * x + y * y + z * z) (x := z) (by omega) (by omega) (by omega)
  unfold unR Nv.unitR
  rw [es, show gH.dR (x * x + y * y + z * z) = true from dRt_iff.2 (by omega)]
  show uQ gH x (Nv.root _) (fun a => uQ gH y (Nv.root _) fun b => uQ gH z (Nv.root _) fun c => some ((a, b, c), false, ())) = _
  rw [uQ_eq hx hr (by omega) gx.1 gx.2, uQ_eq hy hr (by omega) gy.1 gy.2, uQ_eq hz hr (by omega) gz.1 gz.2]
theorem h114 : FnOK Tryz.prog 114 sV1 rVB fun x => bif wd3B x.1 then some ((Nv.unit x.1).1, (Nv.unit x.1).2, ()) else none := fnDom fun x hx => by
  obtain ⟨p, ⟨⟩⟩ := x
  refine ⟨_, okHV (on := [35, 136, 130, 106]), [lunit], (h114_eq gH p).trans ?_⟩
  have i1 := Nv.V_in p.1; have i2 := Nv.V_in p.2.1; have i3 := Nv.V_in p.2.2
  have h1 := mag_range i1; have h2 := mag_range i2; have h3 := mag_range i3
  rw [on3_eq hx, show gH.V p.1 = Nv.V p.1 from rfl, show gH.V p.2.1 = Nv.V p.2.1 from rfl, show gH.V p.2.2 = Nv.V p.2.2 from rfl, mgr_eq i1, mgr_eq i2, mgr_eq i3, max3_eq]
  have hc := cnt_max (p := p)
  obtain ⟨c0, c28, c1, c2, c3⟩ := Nv.cnt_range p
  have s1 := Nv.shift_in i1 c0 c1; have s2 := Nv.shift_in i2 c0 c2; have s3 := Nv.shift_in i3 c0 c3
  have hp := Nv.p2_pos (Nv.cnt p).toNat
  have z1 : Nv.mag (Nv.V p.1) = 0 → Nv.V p.1 = 0 := by unfold Nv.mag; split <;> omega
  have z2 : Nv.mag (Nv.V p.2.1) = 0 → Nv.V p.2.1 = 0 := by unfold Nv.mag; split <;> omega
  have z3 : Nv.mag (Nv.V p.2.2) = 0 → Nv.V p.2.2 = 0 := by unfold Nv.mag; split <;> omega
  have b1 : -Nv.mag (Nv.V p.1) ≤ Nv.V p.1 ∧ Nv.V p.1 ≤ Nv.mag (Nv.V p.1) := by unfold Nv.mag; split <;> omega
  have b2 : -Nv.mag (Nv.V p.2.1) ≤ Nv.V p.2.1 ∧ Nv.V p.2.1 ≤ Nv.mag (Nv.V p.2.1) := by unfold Nv.mag; split <;> omega
  have b3 : -Nv.mag (Nv.V p.2.2) ≤ Nv.V p.2.2 ∧ Nv.V p.2.2 ≤ Nv.mag (Nv.V p.2.2) := by unfold Nv.mag; split <;> omega
  show _ = some ((Nv.unit p).1, (Nv.unit p).2, ())
  unfold Nv.unit
  by_cases h : Nv.V p.1 = 0 ∧ Nv.V p.2.1 = 0 ∧ Nv.V p.2.2 = 0
  · rw [if_pos h, h.1, h.2.1, h.2.2]
    rfl
  · rw [if_neg h]
    have hpos : 1 ≤ max (max (Nv.mag (Nv.V p.1)) (Nv.mag (Nv.V p.2.1))) (Nv.mag (Nv.V p.2.2)) := by
      apply Decidable.byContradiction
      intro hh
      exact h ⟨z1 (by omega), z2 (by omega), z3 (by omega)⟩
    generalize hM : max (max (Nv.mag (Nv.V p.1)) (Nv.mag (Nv.V p.2.1))) (Nv.mag (Nv.V p.2.2)) = M at *
    have hM2 : M ≤ 268435455 := by omega
    have nz : ∀ v : Int, v * 2 ^ (Nv.cnt p).toNat = 0 → v = 0 := fun v hv => by
      rcases Int.mul_eq_zero.1 hv with e | e
      · exact e
      · omega
    have hl := sun_lim ((0, 0), (0, 0), (0, 0)) (Nv.cnt p).toNat (Nv.V p.1) (Nv.V p.2.1) (Nv.V p.2.2) M (by omega) hpos hM2 (by omega)
    rw [show (M == 0) = false by simp; omega, cond_false, hl]
    show unR gH (Nv.V p.1 * 2 ^ (Nv.cnt p).toNat, Nv.V p.2.1 * 2 ^ (Nv.cnt p).toNat, Nv.V p.2.2 * 2 ^ (Nv.cnt p).toNat) = _
    rw [unR_eq s1 s2 s3 (fun hh => h ⟨nz _ hh.1, nz _ hh.2.1, nz _ hh.2.2⟩)]
end Go.Pv
/-! ### What the reference of the interpreter's small functions compute: as the code says it. -/
namespace Go.Pv
open Go.Proofs
set_option maxRecDepth 1000000
structure H2 where
  V : Db → Int
  dD : Db → Bool
  D : Int → Db
  dIn : Int → Bool
  cl : Int → Db × Bool
  mul : Db → Db → Db
  div : Db → Db → Db × Bool
  sqrt : Db → Db × Bool
  sine : Int → Db
  sh : Db → Int → Db × Bool
  dV3 : Vc → Bool
  dM : Mt → Bool
  dSum : Vc → Vc → Int → Bool
  sum : Vc → Vc → Int → Vc × Bool
  dot : Vc → Vc → Db × Bool
  cross : Vc → Vc → Vc × Bool
  vsh : Vc → Int → Vc × Bool
  len : Vc → Db × Bool
  unit : Vc → Vc × Bool
  times : Mt → Vc → Vc × Bool
  trans : Mt → Mt
  scale : Vc → Db → Vc
  word : List Int → Int → Int
  dW : Int → Bool
  c3 : Vc → Vc
  rd : List Int → Int → Vc
  dRd : List Int → Int → Bool
  vec : Ins → Vc → Vc → List Int → Vc × Bool
  dVec : Ins → Vc → Vc → List Int → Bool
  scal : Ins → Db → Db → Vc × Bool
  dScal : Ins → Db → Db → Bool
  form : Int → Nv.Form
  dForm : Int → Bool
@[reducible] def sVxr : Sig := [.agg tInstr, .agg tVec, .agg tVec, .val (.slice tW)]
def specsK' (g : H2) (R : Type) (f : FuncId) : Option (List V → Mem → Nat → (Eff → Option R) → Option R) :=
  match f with
  | 35 => some (specD sD1 [.val tI] (fun x => g.dD x.1) fun x => (g.V x.1, ()))
  | 106 => some (specD [.val tI] sD1 (fun x => g.dIn x.1) fun x => (g.D x.1, ()))
  | 117 => some (specD [.val tI] rDB (fun _ => true) fun x => ((g.cl x.1).1, (g.cl x.1).2, ()))
  | 107 => some (specD sDD sD1 (fun x => g.dD x.1 && g.dD x.2.1) fun x => (g.mul x.1 x.2.1, ()))
  | 118 => some (specD sDD rDB (fun x => g.dD x.1 && g.dD x.2.1) fun x => ((g.div x.1 x.2.1).1, (g.div x.1 x.2.1).2, ()))
  | 119 => some (specD sD1 rDB (fun x => g.dD x.1) fun x => ((g.sqrt x.1).1, (g.sqrt x.1).2, ()))
  | 120 => some (specD [.val tI] sD1 (fun _ => true) fun x => (g.sine x.1, ()))
  | 121 => some (specD sDI rDB (fun x => g.dD x.1) fun x => ((g.sh x.1 x.2.1).1, (g.sh x.1 x.2.1).2, ()))
  | 108 => some (specD [.agg tVec, .agg tVec, .val tI] rVB (fun x => g.dSum x.1 x.2.1 x.2.2.1) fun x => ((g.sum x.1 x.2.1 x.2.2.1).1, (g.sum x.1 x.2.1 x.2.2.1).2, ()))
  | 110 => some (specD sVV rDB (fun x => g.dV3 x.1 && g.dV3 x.2.1) fun x => ((g.dot x.1 x.2.1).1, (g.dot x.1 x.2.1).2, ()))
  | 111 => some (specD sVV rVB (fun x => g.dV3 x.1 && g.dV3 x.2.1) fun x => ((g.cross x.1 x.2.1).1, (g.cross x.1 x.2.1).2, ()))
  | 112 => some (specD [.agg tVec, .val tI] rVB (fun x => g.dV3 x.1) fun x => ((g.vsh x.1 x.2.1).1, (g.vsh x.1 x.2.1).2, ()))
  | 113 => some (specD sV1 rDB (fun x => g.dV3 x.1) fun x => ((g.len x.1).1, (g.len x.1).2, ()))
  | 114 => some (specD sV1 rVB (fun x => g.dV3 x.1) fun x => ((g.unit x.1).1, (g.unit x.1).2, ()))
  | 115 => some (specD [.agg tMat, .agg tVec] rVB (fun x => g.dM x.1 && g.dV3 x.2.1) fun x => ((g.times x.1 x.2.1).1, (g.times x.1 x.2.1).2, ()))
  | 116 => some (specD [.agg tMat] [.agg tMat] (fun x => g.dM x.1) fun x => (g.trans x.1, ()))
  | 72 => some (specD [.agg tVec, .agg tD] sV1 (fun x => g.dV3 x.1 && g.dD x.2.1) fun x => (g.scale x.1 x.2.1, ()))
  | 76 => some (specD [.val (.slice tW), .val tI] [.val tW] (fun x => g.dW x.2.1) fun x => (g.word x.1 x.2.1, ()))
  | 31 => some (specD sV1 sV1 (fun x => g.dV3 x.1) fun x => (g.c3 x.1, ()))
  | 71 => some (specD sLI sV1 (fun x => g.dRd x.1 x.2.1) fun x => (g.rd x.1 x.2.1, ()))
  | 73 => some (specD sVxr rVB (fun x => g.dVec x.1 x.2.1 x.2.2.1 x.2.2.2.1) fun x => ((g.vec x.1 x.2.1 x.2.2.1 x.2.2.2.1).1, (g.vec x.1 x.2.1 x.2.2.1 x.2.2.2.1).2, ()))
  | 74 => some (specD sIDD rVB (fun x => g.dScal x.1 x.2.1 x.2.2.1) fun x => ((g.scal x.1 x.2.1 x.2.2.1).1, (g.scal x.1 x.2.1 x.2.2.1).2, ()))
  | 29 => some (specD sOp [.agg tForm] (fun x => g.dForm x.1) fun x => (g.form x.1, ()))
  | _ => none
def specsK (on : List Nat) (g : H2) (R : Type) (f : FuncId) : Option (List V → Mem → Nat → (Eff → Option R) → Option R) := bif hasN f on then specsK' g R f else none
noncomputable def callK (on : List Nat) (g : H2) (R : Type) : CallE R := callsE Tryz.prog tt (specsK on g R) 20
/-! ### Canon, read -/
def kD {α : Type} (g : H2) (p : Db) (k : Db → Option α) : Option α := onlyN (g.dD p) (onlyN (g.dIn (g.V p)) (k (g.D (g.V p))))
theorem h31_eq (g : H2) (a : Vc) : evalF Tryz.prog tt (callK [35, 106] g) [] 31 sV1 sV1 (a, ()) = kD g a.1 fun x => kD g a.2.1 fun y => kD g a.2.2 fun z => some ((x, y, z), ()) := by kernel_rfl
theorem h76_eq (l : List Int) (i : Int) : evalF Tryz.prog tt call0 [] 76 [.val (.slice tW), .val tI] [.val tW] (l, i, ()) =
    bif decide (i < (l.length : Int)) then (bif inRange i l.length then some (l.getD i.toNat 0, ()) else none) else some (0, ()) := by kernel_rfl
theorem h71_eq (g : H2) (l : List Int) (i : Int) : evalF Tryz.prog tt (callK [76, 31] g) [] 71 sLI sV1 (l, i, ()) =
    rdW g.word g.dW l (w64 (i + w64 (2 * 0))) fun a => rdW g.word g.dW l (w64 (w64 (i + w64 (2 * 0)) + 1)) fun b =>
    rdW g.word g.dW l (w64 (i + w64 (2 * 1))) fun a1 => rdW g.word g.dW l (w64 (w64 (i + w64 (2 * 1)) + 1)) fun b1 =>
    rdW g.word g.dW l (w64 (i + w64 (2 * 2))) fun a2 => rdW g.word g.dW l (w64 (w64 (i + w64 (2 * 2)) + 1)) fun b2 => onlyN (g.dV3 ((a, b), (a1, b1), (a2, b2))) (some (g.c3 ((a, b), (a1, b1), (a2, b2)), ())) := by kernel_rfl
/-! ### scalars -/
def sc (d : Db × Bool) : RV2 := some ((d.1, (0, 0), (0, 0)), d.2, ())
theorem h74_eq (g : H2) (i : Ins) (p a : Db) : evalF Tryz.prog tt (callK [35, 106, 117, 107, 118, 119, 120, 121] g) [] 74 sIDD rVB (i, p, a, ()) =
    onlyN (g.dD p) (onlyN (g.dD a) (
    bif i.1 == 10 then sc (g.cl (w64 (g.V p + g.V a))) else bif i.1 == 11 then sc (g.cl (w64 (g.V p - g.V a))) else
    bif i.1 == 12 then onlyN (g.dD p && g.dD a) (sc (g.mul p a, false)) else bif i.1 == 13 then onlyN (g.dD p && g.dD a) (sc (g.div p a)) else
    bif i.1 == 14 then onlyN (g.dIn (w64 (0 - g.V a))) (sc (g.D (w64 (0 - g.V a)), false)) else bif i.1 == 15 then onlyN (g.dIn (mgr (g.V a))) (sc (g.D (mgr (g.V a)), false)) else
    bif i.1 == 16 then onlyN (g.dD a) (sc (g.sqrt a)) else bif i.1 == 17 then sc (g.sine (g.V a), false) else bif i.1 == 18 then sc (g.sine (w64 (g.V a + 67108864)), false) else
    bif i.1 == 19 then onlyN (g.dD a) (sc (g.sh a i.2.1)) else sc (p, false))) := by kernel_rfl
/-! ### vectors -/
def chV (g : H2) (i : Ins) (p a : Vc) (m : Mt) : RV2 :=
  bif i.1 == 20 then onlyN (g.dSum p a 1) (two (g.sum p a 1)) else bif i.1 == 21 then onlyN (g.dSum p a (-1)) (two (g.sum p a (-1))) else
  bif i.1 == 22 then onlyN (g.dSum ((0, 0), (0, 0), (0, 0)) a (-1)) (two (g.sum ((0, 0), (0, 0), (0, 0)) a (-1))) else
  bif i.1 == 23 then onlyN (g.dV3 p && g.dV3 a) (sc (g.dot p a)) else bif i.1 == 24 then onlyN (g.dV3 p && g.dV3 a) (two (g.cross p a)) else
  bif i.1 == 26 then onlyN (g.dV3 a) (two (g.vsh a i.2.1)) else bif i.1 == 27 then onlyN (g.dV3 a) (sc (g.len a)) else bif i.1 == 28 then onlyN (g.dV3 a) (two (g.unit a)) else
  bif i.1 == 29 then (bif inRange i.2.1 3 then sc (([a.1.1, a.2.1.1, a.2.2.1].getD i.2.1.toNat 0, [a.1.2, a.2.1.2, a.2.2.2].getD i.2.1.toNat 0), false) else none) else
  bif i.1 == 31 then onlyN (g.dM m && g.dV3 a) (two (g.times m a)) else bif i.1 == 32 then onlyN (g.dM m) (onlyN (g.dM (g.trans m) && g.dV3 a) (two (g.times (g.trans m) a))) else two (p, false)
def rdM (g : H2) (l : List Int) (i : Int) (k : Mt → RV2) : RV2 := onlyN (g.dRd l i) (onlyN (g.dRd l (w64 (i + 6))) (onlyN (g.dRd l (w64 (i + 12))) (k (g.rd l i, g.rd l (w64 (i + 6)), g.rd l (w64 (i + 12))))))
theorem h73_eq (g : H2) (i : Ins) (p a : Vc) (l : List Int) : evalF Tryz.prog tt (callK [71, 108, 110, 111, 112, 113, 114, 115, 116] g) [] 73 sVxr rVB (i, p, a, l, ()) =
    bif i.1 == 31 then rdM g l i.2.1 (chV g i p a) else bif i.1 == 32 then rdM g l i.2.1 (chV g i p a) else chV g i p a (((0, 0), (0, 0), (0, 0)), ((0, 0), (0, 0), (0, 0)), ((0, 0), (0, 0), (0, 0))) := by kernel_rfl
/-! ### result -/
theorem h33_eq (g : H2) (i : Ins) (p q a : Vc) (l : List Int) : evalF Tryz.prog tt (callK [29, 71, 31, 72, 73, 74] g) [] 33 sCmp rVB (i, p, q, a, l, ()) =
    onlyN (g.dForm i.1) (bif i.1 == 1 then onlyN (g.dRd l i.2.1) (two (g.rd l i.2.1, false)) else bif i.1 == 2 then onlyN (g.dRd l i.2.1) (two (g.rd l i.2.1, false)) else
    bif i.1 == 5 then onlyN (g.dV3 i.2.2.2) (two (g.c3 i.2.2.2, false)) else bif i.1 == 6 then onlyN (g.dV3 i.2.2.2) (two (g.c3 i.2.2.2, false)) else
    bif i.1 == 25 then onlyN (g.dV3 p && g.dD a.1) (two (g.scale p a.1, false)) else bif i.1 == 30 then two ((q.1, p.1, a.1), false) else
    bif i.1 == 8 then two (p, false) else bif i.1 == 9 then two (p, false) else
    bif (g.form i.1).1 == 2 then onlyN (g.dVec i p a l) (two (g.vec i p a l)) else onlyN (g.dScal i p.1 a.1) (two (g.scal i p.1 a.1))) := by kernel_rfl
end Go.Pv
/-! ### The reference's results are the plain ones. -/
namespace Go.Pv
open Go.Proofs
set_option maxRecDepth 1000000
def dScal (i : Ins) (p a : Db) : Bool := decide (10 ≤ i.1) && decide (i.1 ≤ 19) && (wdB p && wdB a)
def dVecs (i : Ins) (p a : Vc) (l : List Int) : Bool := decide (20 ≤ i.1) && decide (i.1 ≤ 32) && (!decide (i.1 = 25) && !decide (i.1 = 30)) && (wd3B p && wd3B a) && (inOKb l && dComp i)
def dRdK (l : List Int) (i : Int) : Bool := inOKb l && dAt i
def gK : H2 := {
  V := Nv.V, dD := wdB, D := Nv.D, dIn := dIn, cl := Nv.clD, mul := Nv.mul, div := Nv.div, sqrt := Nv.sqrt, sine := Nv.sine, sh := Nv.shift, dV3 := wd3B, dM := wdM, dSum := dSum, sum := vsum, dot := Nv.dot, cross := Nv.cross,
  vsh := Nv.vshift, len := Nv.length, unit := Nv.unit, times := Nv.times, trans := Nv.trans, scale := Nv.scale, word := Nv.word, dW := fun i => decide (0 ≤ i), c3 := Nv.map3 Nv.canon, rd := Nv.readV, dRd := dRdK,
  vec := fun i p a l => Nv.compute i p Nv.zero3 a l, dVec := dVecs, scal := fun i p a => Nv.one (Nv.scalar i p a), dScal := dScal, form := Nv.form, dForm := kn }
theorem callK_ok {on : List Nat} {g : H2} (h : ∀ R f s, hasN f on = true → specsK' g R f = some s → ∀ args M id (c : Eff → Option R) r, s args M id c = some r → ∃ eff, CallOK Tryz.prog f args M eff ∧ c eff = some r) (R : Type) : CallsOK Tryz.prog (callK on g R) :=
  callsE_ok tt_ok mixed names (fun f s hs => by
    unfold specsK at hs
    cases hf : hasN f on with
    | false => rw [hf] at hs; cases hs
    | true => rw [hf] at hs; exact h R f s hf hs) 20
theorem onlyT {α : Type} {b : Bool} {o : Option α} (h : b = true) : onlyN b o = o := by rw [h]; rfl
/-! ### Canon, read -/
theorem kD_eq {α : Type} {p : Db} (h : wdB p = true) (k : Db → Option α) : kD gK p k = k (Nv.canon p) := by
  unfold kD
  rw [onlyT (show gK.dD p = true from h), onlyT (show gK.dIn (gK.V p) = true from dIn_iff.2 (Nv.V_in p))]
  rfl
theorem k31 : FnOK Tryz.prog 31 sV1 sV1 fun x => bif gK.dV3 x.1 then some (gK.c3 x.1, ()) else none := fnDom fun x hx => by
  obtain ⟨a, ⟨⟩⟩ := x
  obtain ⟨h1, h2, h3⟩ := wd3B_iff.1 (show wd3B a = true from hx)
  refine ⟨_, callK_ok (on := [35, 106]) (g := gK) fun R f s hf hs => ?_, [], (h31_eq gK a).trans ?_⟩
  · unfold specsK' at hs
    split at hs
    all_goals first
      | exact absurd hf (by decide)
      | (cases hs; exact specD_ok h35 flat_int (cntN 35 (by kernel_rfl)))
      | (cases hs; exact specD_ok h106 flatD (cntN 106 (by kernel_rfl)))
      | cases hs
  · rw [kD_eq h1, kD_eq h2, kD_eq h3]; rfl
theorem k76 : FnOK Tryz.prog 76 [.val (.slice tW), .val tI] [.val tW] fun x => bif gK.dW x.2.1 then some (gK.word x.1 x.2.1, ()) else none := fnDom fun x hx => by
  obtain ⟨l, i, ⟨⟩⟩ := x
  exact ⟨_, call0_ok, [], (h76_eq l i).trans ((e80_eq l i).symm.trans (v80 l i (of_decide_eq_true hx)))⟩
theorem word_range {l : List Int} (h : inOKb l = true) (i : Int) : 0 ≤ Nv.word l i ∧ Nv.word l i ≤ 65535 := wd_nonneg (inOKb_ok h).1 i
theorem v71K {l : List Int} {i : Int} (h : dRdK l i = true) : evalF Tryz.prog tt (callK [76, 31] gK) [] 71 sLI sV1 (l, i, ()) = some (Nv.readV l i, ()) := by
  obtain ⟨hl, hi⟩ := Bool.and_eq_true_iff.1 h
  have hi := dAt_iff.1 hi
  rw [h71_eq]
  have a0 : w64 (2 * 0) = 0 := by decide +kernel
  have a1 : w64 (2 * 1) = 2 := by decide +kernel
  have a2 : w64 (2 * 2) = 4 := by decide +kernel
  have e : ∀ k, 0 ≤ k → k ≤ 10 → w64 (i + k) = i + k := fun k h1 h2 => w64_small (by omega) (by omega)
  have e' : ∀ k, 0 ≤ k → k ≤ 10 → w64 (i + k + 1) = i + (k + 1) := fun k h1 h2 => by rw [w64_small (by omega) (by omega)]; omega
  rw [a0, a1, a2, e 0 (by omega) (by omega), e 2 (by omega) (by omega), e 4 (by omega) (by omega), e' 0 (by omega) (by omega), e' 2 (by omega) (by omega), e' 4 (by omega) (by omega)]
  have r : ∀ {α : Type} (j : Int) (k : Int → Option α), 0 ≤ j → rdW gK.word gK.dW l j k = k (Nv.word l j) := fun j k hj => rdW_eq hj k
  rw [r _ _ (by omega), r _ _ (by omega), r _ _ (by omega), r _ _ (by omega), r _ _ (by omega), r _ _ (by omega), Int.add_zero]
  refine (onlyT ?_).trans rfl
  have w : ∀ j k, wdB (Nv.word l j, Nv.word l k) = true := fun j k => by
    have h1 := word_range hl j; have h2 := word_range hl k
    rw [wdB_iff]; exact ⟨⟨⟨h1.1, h1.2⟩, h2.1⟩, h2.2⟩
  exact wd3B_iff.2 ⟨w _ _, w _ _, w _ _⟩
theorem k71 : FnOK Tryz.prog 71 sLI sV1 fun x => bif gK.dRd x.1 x.2.1 then some (gK.rd x.1 x.2.1, ()) else none := fnDom fun x hx => by
  refine ⟨_, callK_ok (on := [76, 31]) (g := gK) fun R f s hf hs => ?_, [], v71K hx⟩
  unfold specsK' at hs
  split at hs
  all_goals first
    | exact absurd hf (by decide)
    | (cases hs; exact specD_ok k76 flat_w (cntN 76 (by kernel_rfl)))
    | (cases hs; exact specD_ok k31 flatV (cntN 31 (by kernel_rfl)))
    | cases hs
theorem wd3_readV (l : List Int) (i : Int) : wd3B (Nv.readV l i) = true := wd3B_iff.2 ⟨wdB_canon _, wdB_canon _, wdB_canon _⟩
theorem wdM_rows (l : List Int) (i : Int) : wdM (Nv.rows l i) = true := wdM_iff.2 ⟨wd3_readV _ _, wd3_readV _ _, wd3_readV _ _⟩
theorem wdM_trans (m : Mt) : wdM (Nv.trans m) = true := wdM_iff.2 ⟨wd3B_iff.2 ⟨wdB_canon _, wdB_canon _, wdB_canon _⟩, wd3B_iff.2 ⟨wdB_canon _, wdB_canon _, wdB_canon _⟩, wd3B_iff.2 ⟨wdB_canon _, wdB_canon _, wdB_canon _⟩⟩
/-! ### scalars -/
theorem v74 (i : Ins) (p a : Db) (h : dScal i p a = true) : evalF Tryz.prog tt (callK [35, 106, 117, 107, 118, 119, 120, 121] gK) [] 74 sIDD rVB (i, p, a, ()) = two (Nv.one (Nv.scalar i p a)) := by
  obtain ⟨op, n, m, v⟩ := i
  simp only [dScal, Bool.and_eq_true, decide_eq_true_eq] at h
  obtain ⟨⟨h1, h2⟩, hp, ha⟩ := h
  have hpa : (gK.dD p && gK.dD a) = true := Bool.and_eq_true_iff.2 ⟨hp, ha⟩
  have ip := Nv.V_in p; have ia := Nv.V_in a
  have ip' := ip; have ia' := ia
  unfold Nv.In at ip' ia'
  have en : w64 (0 - Nv.V a) = -Nv.V a := by rw [w64_small (by omega) (by omega)]; omega
  have em : mgr (Nv.V a) = Nv.mag (Nv.V a) := mgr_eq ia
  have hm := mag_range ia
  rw [h74_eq, onlyT (show gK.dD p = true from hp), onlyT (show gK.dD a = true from ha), onlyT hpa, onlyT hpa, onlyT (show gK.dD a = true from ha), onlyT (show gK.dD a = true from ha)]
  rw [show gK.V p = Nv.V p from rfl, show gK.V a = Nv.V a from rfl, en, em, onlyT (show gK.dIn (-Nv.V a) = true from dIn_iff.2 (by unfold Nv.In; omega)), onlyT (show gK.dIn (Nv.mag (Nv.V a)) = true from dIn_iff.2 (by unfold Nv.In; omega)),
    w64_small (k := Nv.V p + Nv.V a) (by omega) (by omega), w64_small (k := Nv.V p - Nv.V a) (by omega) (by omega), w64_small (k := Nv.V a + 67108864) (by omega) (by omega)]
  have hop : op = 10 ∨ op = 11 ∨ op = 12 ∨ op = 13 ∨ op = 14 ∨ op = 15 ∨ op = 16 ∨ op = 17 ∨ op = 18 ∨ op = 19 := by omega
  rcases hop with rfl | rfl | rfl | rfl | rfl | rfl | rfl | rfl | rfl | rfl
  · rfl
  · rfl
  · rfl
  · rfl
  · rfl
  · show sc (Nv.D (Nv.mag (Nv.V a)), false) = two (Nv.one (Nv.abs a, false))
    have : Nv.abs a = Nv.D (Nv.mag (Nv.V a)) := by unfold Nv.abs Nv.mag; split <;> rfl
    rw [this]; rfl
  · rfl
  · rfl
  · rfl
  · rfl
theorem k74 : FnOK Tryz.prog 74 sIDD rVB fun x => bif gK.dScal x.1 x.2.1 x.2.2.1 then some ((gK.scal x.1 x.2.1 x.2.2.1).1, (gK.scal x.1 x.2.1 x.2.2.1).2, ()) else none := fnDom fun x hx => by
  refine ⟨_, callK_ok (on := [35, 106, 117, 107, 118, 119, 120, 121]) (g := gK) fun R f s hf hs => ?_, [], v74 x.1 x.2.1 x.2.2.1 hx⟩
  unfold specsK' at hs
  split at hs
  all_goals first
    | exact absurd hf (by decide)
    | (cases hs; exact specD_ok h35 flat_int (cntN 35 (by kernel_rfl)))
    | (cases hs; exact specD_ok h106 flatD (cntN 106 (by kernel_rfl)))
    | (cases hs; exact specD_ok h117 flatDB (cntN 117 (by kernel_rfl)))
    | (cases hs; exact specD_ok h107 flatD (cntN 107 (by kernel_rfl)))
    | (cases hs; exact specD_ok h118 flatDB (cntN 118 (by kernel_rfl)))
    | (cases hs; exact specD_ok h119 flatDB (cntN 119 (by kernel_rfl)))
    | (cases hs; exact specD_ok h120 flatD (cntN 120 (by kernel_rfl)))
    | (cases hs; exact specD_ok h121 flatDB (cntN 121 (by kernel_rfl)))
    | cases hs
/-! ### vectors -/
theorem rdM_eq {l : List Int} {i : Int} (hl : inOKb l = true) (hi : 0 ≤ i ∧ i ≤ 900000) (k : Mt → RV2) : rdM gK l i k = k (Nv.rows l i) := by
  have d : ∀ j, 0 ≤ j ∧ j ≤ 1000000 → gK.dRd l j = true := fun j hj => Bool.and_eq_true_iff.2 ⟨hl, dAt_iff.2 hj⟩
  unfold rdM
  rw [w64_small (k := i + 6) (by omega) (by omega), w64_small (k := i + 12) (by omega) (by omega), onlyT (d i (by omega)), onlyT (d (i + 6) (by omega)), onlyT (d (i + 12) (by omega))]
  rfl
theorem vsum_neg (a : Vc) : vsum ((0, 0), (0, 0), (0, 0)) a (-1) = (Nv.vneg a, false) := by
  have v0 : Nv.V (0, 0) = 0 := rfl
  have e : ∀ d : Db, (Nv.sub (0, 0) d).2 = false := fun d => by
    have := Nv.V_in d
    unfold Nv.In at this
    unfold Nv.sub Nv.clD
    rw [v0, Nv.cl_id (by unfold Nv.In; omega)]
  show Nv.vsub Nv.zero3 a = _
  unfold Nv.vneg Nv.vsub Nv.each
  rw [show (Nv.sub Nv.zero3.1 a.1).2 = false from e _, show (Nv.sub Nv.zero3.2.1 a.2.1).2 = false from e _, show (Nv.sub Nv.zero3.2.2 a.2.2).2 = false from e _]
  rfl
theorem v73 (i : Ins) (p a : Vc) (l : List Int) (h : dVecs i p a l = true) : evalF Tryz.prog tt (callK [71, 108, 110, 111, 112, 113, 114, 115, 116] gK) [] 73 sVxr rVB (i, p, a, l, ()) = two (Nv.compute i p Nv.zero3 a l) := by
  obtain ⟨op, n, m, v⟩ := i
  simp only [dVecs, Bool.and_eq_true, Bool.not_eq_true', decide_eq_true_eq, decide_eq_false_iff_not] at h
  obtain ⟨⟨⟨⟨h1, h2⟩, h25, h30⟩, hp, ha⟩, hl, hc⟩ := h
  have hA : (op = 31 ∨ op = 32) → 0 ≤ n ∧ n ≤ 2047 := fun ho => by
    simp only [dComp, inAddr, Bool.and_eq_true, Bool.or_eq_true, Bool.not_eq_true', Bool.or_eq_false_iff, decide_eq_false_iff_not, decide_eq_true_eq] at hc
    omega
  have hC : op = 29 → 0 ≤ n ∧ n ≤ 2 := fun ho => by
    simp only [dComp, inAddr, Bool.and_eq_true, Bool.or_eq_true, Bool.not_eq_true', Bool.or_eq_false_iff, decide_eq_false_iff_not, decide_eq_true_eq] at hc
    omega
  have hpa : (gK.dV3 p && gK.dV3 a) = true := Bool.and_eq_true_iff.2 ⟨hp, ha⟩
  have ha' : gK.dV3 a = true := ha
  have s1 : gK.dSum p a 1 = true := by show dSum p a 1 = true; simp [dSum, hp, ha]
  have s2 : gK.dSum p a (-1) = true := by show dSum p a (-1) = true; simp [dSum, hp, ha]
  have s3 : gK.dSum ((0, 0), (0, 0), (0, 0)) a (-1) = true := by
    show dSum ((0, 0), (0, 0), (0, 0)) a (-1) = true
    have : wd3B ((0, 0), (0, 0), (0, 0)) = true := by decide
    simp [dSum, this, ha]
  rw [h73_eq]
  have hop : op = 20 ∨ op = 21 ∨ op = 22 ∨ op = 23 ∨ op = 24 ∨ op = 26 ∨ op = 27 ∨ op = 28 ∨ op = 29 ∨ op = 31 ∨ op = 32 := by omega
  rcases hop with rfl | rfl | rfl | rfl | rfl | rfl | rfl | rfl | rfl | rfl | rfl
  · exact (onlyT s1).trans rfl
  · exact (onlyT s2).trans rfl
  · refine (onlyT s3).trans ?_
    show two (vsum ((0, 0), (0, 0), (0, 0)) a (-1)) = two (Nv.vneg a, false)
    rw [vsum_neg]
  · exact (onlyT hpa).trans rfl
  · exact (onlyT hpa).trans rfl
  · exact (onlyT ha').trans rfl
  · exact (onlyT ha').trans rfl
  · exact (onlyT ha').trans rfl
  · have hn := hC rfl
    have : n = 0 ∨ n = 1 ∨ n = 2 := by omega
    rcases this with rfl | rfl | rfl <;> rfl
  · have hn := hA (.inl rfl)
    refine (rdM_eq (i := n) hl (by omega) _).trans ?_
    exact (onlyT (Bool.and_eq_true_iff.2 ⟨wdM_rows _ _, ha⟩)).trans rfl
  · have hn := hA (.inr rfl)
    refine (rdM_eq (i := n) hl (by omega) _).trans ?_
    refine (onlyT (wdM_rows _ _)).trans ?_
    exact (onlyT (Bool.and_eq_true_iff.2 ⟨wdM_trans _, ha⟩)).trans rfl
theorem k73 : FnOK Tryz.prog 73 sVxr rVB fun x => bif gK.dVec x.1 x.2.1 x.2.2.1 x.2.2.2.1 then some ((gK.vec x.1 x.2.1 x.2.2.1 x.2.2.2.1).1, (gK.vec x.1 x.2.1 x.2.2.1 x.2.2.2.1).2, ()) else none := fnDom fun x hx => by
  refine ⟨_, callK_ok (on := [71, 108, 110, 111, 112, 113, 114, 115, 116]) (g := gK) fun R f s hf hs => ?_, [], v73 x.1 x.2.1 x.2.2.1 x.2.2.2.1 hx⟩
  unfold specsK' at hs
  split at hs
  all_goals first
    | exact absurd hf (by decide)
    | (cases hs; exact specD_ok k71 flatV (cntN 71 (by kernel_rfl)))
    | (cases hs; exact specD_ok h108 flatVB (cntN 108 (by kernel_rfl)))
    | (cases hs; exact specD_ok h110 flatDB (cntN 110 (by kernel_rfl)))
    | (cases hs; exact specD_ok h111 flatVB (cntN 111 (by kernel_rfl)))
    | (cases hs; exact specD_ok h112 flatVB (cntN 112 (by kernel_rfl)))
    | (cases hs; exact specD_ok h113 flatDB (cntN 113 (by kernel_rfl)))
    | (cases hs; exact specD_ok h114 flatVB (cntN 114 (by kernel_rfl)))
    | (cases hs; exact specD_ok h115 flatVB (cntN 115 (by kernel_rfl)))
    | (cases hs; exact specD_ok h116 flatM (cntN 116 (by kernel_rfl)))
    | cases hs
/-! ### Form -/
noncomputable abbrev k29f (k : Int) := evalF Tryz.prog tt call0 [] 29 sOp [.agg tForm] (k, ())
theorem t29 : each38 (fun k => isForm (k29f k) (formOf k)) = true := by kernel_rfl
theorem k29 : FnOK Tryz.prog 29 sOp [.agg tForm] fun x => bif kn x.1 then some (Nv.form x.1, ()) else none := fnDom fun _ hx =>
  ⟨_, call0_ok, [], isForm_eq (each38_at t29 (kn_iff.1 hx).1 (kn_iff.1 hx).2)⟩
/-! ### result -/
/-- the reference's result -/
def resR (i : Ins) (p q a : Vc) (l : List Int) : Vc × Bool := if i.1 = 5 ∨ i.1 = 6 then (Nv.map3 Nv.canon i.2.2.2, false) else Nv.compute i p q a l
def dRes (i : Ins) (p a : Vc) (l : List Int) : Bool := kn i.1 && !moves i.1 && (wd3B p && (wd3B a && wd3B i.2.2.2)) && (inOKb l && dComp i)
theorem v33 (i : Ins) (p q a : Vc) (l : List Int) (h : dRes i p a l = true) : evalF Tryz.prog tt (callK [29, 71, 31, 72, 73, 74] gK) [] 33 sCmp rVB (i, p, q, a, l, ()) = two (resR i p q a l) := by
  rw [h33_eq]
  simp only [dRes, Bool.and_eq_true, Bool.not_eq_true'] at h
  obtain ⟨⟨⟨hk, hm⟩, hp, ha, hv⟩, hl, hc⟩ := h
  have hn : ¬ (i.1 = 3 ∨ i.1 = 4 ∨ i.1 = 7 ∨ (33 ≤ i.1 ∧ i.1 ≤ 38)) := fun h => by rw [moves_iff.2 h] at hm; cases hm
  have hk' := kn_iff.1 hk
  rw [onlyT (show gK.dForm i.1 = true from hk)]
  simp only [bif_eq]
  have hA : (i.1 = 1 ∨ i.1 = 2 ∨ i.1 = 31 ∨ i.1 = 32) → 0 ≤ i.2.1 ∧ i.2.1 ≤ 2047 := fun ho => by
    simp only [dComp, inAddr, Bool.and_eq_true, Bool.or_eq_true, Bool.not_eq_true', Bool.or_eq_false_iff, decide_eq_false_iff_not, decide_eq_true_eq] at hc
    omega
  have hR : (i.1 = 1 ∨ i.1 = 2) → gK.dRd l i.2.1 = true := fun ho => Bool.and_eq_true_iff.2 ⟨hl, dAt_iff.2 (by have := hA (by omega); omega)⟩
  unfold resR
  by_cases h1 : i.1 = 1
  · rw [if_pos h1, onlyT (hR (.inl h1)), if_neg (by omega)]
    unfold Nv.compute; rw [if_pos (.inl h1)]; rfl
  rw [if_neg h1]
  by_cases h2 : i.1 = 2
  · rw [if_pos h2, onlyT (hR (.inr h2)), if_neg (by omega)]
    unfold Nv.compute; rw [if_pos (.inr h2)]; rfl
  rw [if_neg h2]
  by_cases h5 : i.1 = 5
  · rw [if_pos h5, onlyT (show gK.dV3 i.2.2.2 = true from hv), if_pos (.inl h5)]; rfl
  rw [if_neg h5]
  by_cases h6 : i.1 = 6
  · rw [if_pos h6, onlyT (show gK.dV3 i.2.2.2 = true from hv), if_pos (.inr h6)]; rfl
  rw [if_neg h6, if_neg (not_or.2 ⟨h5, h6⟩)]
  have hpa : (gK.dV3 p && gK.dD a.1) = true := Bool.and_eq_true_iff.2 ⟨hp, (wd3B_iff.1 ha).1⟩
  by_cases h25 : i.1 = 25
  · obtain ⟨op, n, m, v⟩ := i
    obtain rfl : op = 25 := h25
    rw [if_pos rfl, onlyT hpa]; rfl
  rw [if_neg h25]
  by_cases h30 : i.1 = 30
  · obtain ⟨op, n, m, v⟩ := i
    obtain rfl : op = 30 := h30
    rw [if_pos rfl]; rfl
  rw [if_neg h30]
  by_cases h8 : i.1 = 8
  · obtain ⟨op, n, m, v⟩ := i
    obtain rfl : op = 8 := h8
    rw [if_pos rfl]; rfl
  rw [if_neg h8]
  by_cases h9 : i.1 = 9
  · obtain ⟨op, n, m, v⟩ := i
    obtain rfl : op = 9 := h9
    rw [if_pos rfl]; rfl
  rw [if_neg h9]
  by_cases hs : i.1 ≤ 19
  · have hf : ¬ (gK.form i.1).1 = 2 := by
      have hop : i.1 = 10 ∨ i.1 = 11 ∨ i.1 = 12 ∨ i.1 = 13 ∨ i.1 = 14 ∨ i.1 = 15 ∨ i.1 = 16 ∨ i.1 = 17 ∨ i.1 = 18 ∨ i.1 = 19 := by omega
      rcases hop with e | e | e | e | e | e | e | e | e | e <;> rw [e] <;> decide
    have hd : gK.dScal i p.1 a.1 = true := by
      show dScal i p.1 a.1 = true
      simp only [dScal, Bool.and_eq_true, decide_eq_true_eq]
      exact ⟨⟨by omega, hs⟩, (wd3B_iff.1 hp).1, (wd3B_iff.1 ha).1⟩
    rw [if_neg hf, onlyT hd]
    obtain ⟨op, n, m, v⟩ := i
    have hop : op = 10 ∨ op = 11 ∨ op = 12 ∨ op = 13 ∨ op = 14 ∨ op = 15 ∨ op = 16 ∨ op = 17 ∨ op = 18 ∨ op = 19 := by simp only at *; omega
    rcases hop with rfl | rfl | rfl | rfl | rfl | rfl | rfl | rfl | rfl | rfl <;> rfl
  · have hd : gK.dVec i p a l = true := by
      show dVecs i p a l = true
      simp only [dVecs, Bool.and_eq_true, Bool.not_eq_true', decide_eq_true_eq, decide_eq_false_iff_not]
      exact ⟨⟨⟨⟨by omega, by omega⟩, h25, h30⟩, hp, ha⟩, hl, hc⟩
    obtain ⟨op, n, m, v⟩ := i
    have hop : op = 20 ∨ op = 21 ∨ op = 22 ∨ op = 23 ∨ op = 24 ∨ op = 26 ∨ op = 27 ∨ op = 28 ∨ op = 29 ∨ op = 31 ∨ op = 32 := by simp only at *; omega
    rw [onlyT hd]
    rcases hop with rfl | rfl | rfl | rfl | rfl | rfl | rfl | rfl | rfl | rfl | rfl <;> rfl
theorem k33 : FnOK Tryz.prog 33 sCmp rVB fun x => bif dRes x.1 x.2.1 x.2.2.2.1 x.2.2.2.2.1 then some ((resR x.1 x.2.1 x.2.2.1 x.2.2.2.1 x.2.2.2.2.1).1, (resR x.1 x.2.1 x.2.2.1 x.2.2.2.1 x.2.2.2.2.1).2, ()) else none := fnDom fun x hx => by
  refine ⟨_, callK_ok (on := [29, 71, 31, 72, 73, 74]) (g := gK) fun R f s hf hs => ?_, [], v33 x.1 x.2.1 x.2.2.1 x.2.2.2.1 x.2.2.2.2.1 hx⟩
  unfold specsK' at hs
  split at hs
  all_goals first
    | exact absurd hf (by decide)
    | (cases hs; exact specD_ok k29 flat_form (cntN 29 (by kernel_rfl)))
    | (cases hs; exact specD_ok k71 flatV (cntN 71 (by kernel_rfl)))
    | (cases hs; exact specD_ok k31 flatV (cntN 31 (by kernel_rfl)))
    | (cases hs; exact specD_ok h72 flatV (cntN 72 (by kernel_rfl)))
    | (cases hs; exact specD_ok k73 flatVB (cntN 73 (by kernel_rfl)))
    | (cases hs; exact specD_ok k74 flatVB (cntN 74 (by kernel_rfl)))
    | cases hs
end Go.Pv
/-! ### The reference's Valid. -/
namespace Go.Pv
open Go.Proofs
set_option maxRecDepth 1000000
def loop26 : LoopSpec := ⟨0, [(1, .box tRegs), (3, .val tI), (4, .val tI)], [(1, .box tRegs), (3, .val tI)], [(2, .val .bool)]⟩
noncomputable def S26 : Nv.Regs × Int × Int × Unit → Option ((Nv.Regs × Int × Int × Unit) ⊕ ((Nv.Regs × Int × Unit) ⊕ (Bool × Unit))) :=
  stepE tt call0 Tryz.f26.ntmps (loopHook tt call0 Tryz.f26.ntmps 100000 [loop26] 4) 100000 loop26 ((loopBody 0 ((Tryz.f26.body).getD .skip)).getD .skip)
def stp26 (g : Nv.Regs) (need i : Int) : Option ((Nv.Regs × Int × Int × Unit) ⊕ ((Nv.Regs × Int × Unit) ⊕ (Bool × Unit))) :=
  bif inRange i g.2.2.2.2.1.length then bif g.2.2.2.2.1.getD i.toNat 0 == 2 then some (.inl (g, w64 (need + 3), w64 (i + 1), ())) else some (.inl (g, w64 (need + 1), w64 (i + 1), ())) else none
theorem S26_eq (g : Nv.Regs) (need i : Int) : S26 (g, need, i, ()) =
    bif decide (i < (g.2.2.2.2.1.length : Int)) then bif inRange i g.2.2.2.2.1.length then bif g.2.2.2.2.1.getD i.toNat 0 != 1 then bif inRange i g.2.2.2.2.1.length then
      bif g.2.2.2.2.1.getD i.toNat 0 != 2 then some (.inr (.inr (false, ()))) else stp26 g need i else none else stp26 g need i else none else some (.inr (.inl (g, need, ()))) := by kernel_rfl
noncomputable def end26 (g : Nv.Regs) : Option (Bool × Unit) := match lim S26 (g, 0, 0, ()) with
  | none => none
  | some (.inl y) => some (y.2.1 == (y.1.2.2.2.1.length : Int), ())
  | some (.inr y) => some (y.1, ())
theorem h26_eq (g : Nv.Regs) : evalF Tryz.prog tt call0 [loop26] 26 sR1 [.val .bool] (g, ()) =
    bif decide (g.2.1 > 2) then some (false, ()) else bif decide ((g.2.2.2.2.2.2.length : Int) > 8) then some (false, ()) else bif decide ((g.2.2.2.1.length : Int) > 18) then some (false, ()) else
    bif decide ((g.2.2.2.2.1.length : Int) > 18) then some (false, ()) else end26 g := by kernel_rfl
/-- modes are looked at one by one -/
def scanR : List Int → Int → Option Int
  | [], n => some n
  | m :: r, n => if ¬ (m = 1 ∨ m = 2) then none else scanR r (n + Nv.size m)
theorem scanR_spec : ∀ (l : List Int) (n : Int), scanR l n = if Nv.modesOk l = true then some (n + Nv.need l) else none
  | [], n => by simp [scanR, Nv.modesOk, Nv.need]
  | m :: r, n => by
    have ih := scanR_spec r (n + Nv.size m)
    simp only [scanR, Nv.need]
    unfold Nv.modesOk at *
    by_cases h : m = 1 ∨ m = 2
    · rw [if_neg (fun hh => hh h), ih, List.all_cons]
      have : (decide (m = 1) || decide (m = 2)) = true := by simpa using h
      rw [this, Bool.true_and]
      by_cases h2 : (r.all fun m => decide (m = 1) || decide (m = 2)) = true
      · rw [if_pos h2, if_pos h2]; congr 1; omega
      · rw [if_neg h2, if_neg h2]
    · rw [if_pos h, List.all_cons]
      have : (decide (m = 1) || decide (m = 2)) = false := by simpa using h
      rw [this, Bool.false_and, if_neg (by simp)]
theorem scan26 (g : Nv.Regs) (hl : g.2.2.2.2.1.length ≤ 18) : ∀ (r : List Int) (need : Int) (i : Nat), g.2.2.2.2.1.drop i = r → 0 ≤ need → need ≤ 3 * i →
    lim S26 (g, need, (i : Int), ()) = match scanR r need with
      | none => some (.inr (false, ()))
      | some k => some (.inl (g, k, ()))
  | [], need, i, hd, h1, h2 => by
    have hl : g.2.2.2.2.1.length ≤ i := by
      apply Decidable.byContradiction
      intro h
      have := congrArg List.length hd
      simp at this; omega
    refine lim_end ?_
    rw [S26_eq, decide_eq_false (by omega)]
    rfl
  | m :: r, need, i, hd, h1, h2 => by
    have hi : i < g.2.2.2.2.1.length := by
      apply Decidable.byContradiction
      intro h
      rw [List.drop_eq_nil_of_le (by omega)] at hd; cases hd
    have hm : g.2.2.2.2.1.getD (Int.toNat (i : Int)) 0 = m := by
      have := congrArg (fun l => l[0]?) hd
      simp at this
      simp [List.getD, this]
    have hr : g.2.2.2.2.1.drop (i + 1) = r := by rw [← List.tail_drop, hd]; rfl
    have hin : inRange (i : Int) g.2.2.2.2.1.length = true := by simp [inRange]; omega
    simp only [scanR]
    by_cases hok : m = 1 ∨ m = 2
    · rw [if_neg (fun h => h hok)]
      have hs : S26 (g, need, (i : Int), ()) = some (.inl (g, need + Nv.size m, ((i + 1 : Nat) : Int), ())) := by
        rw [S26_eq, decide_eq_true (by omega), cond_true, hin, cond_true, hm]
        rcases hok with rfl | rfl
        · show stp26 g need (i : Int) = _
          unfold stp26
          rw [hin, cond_true, hm, w64_small (k := need + 1) (by omega) (by omega), w64_small (k := (i : Int) + 1) (by omega) (by omega)]
          rfl
        · show stp26 g need (i : Int) = _
          unfold stp26
          rw [hin, cond_true, hm, w64_small (k := need + 3) (by omega) (by omega), w64_small (k := (i : Int) + 1) (by omega) (by omega)]
          rfl
      rw [lim_next hs]
      have hsz := size_pos m
      exact scan26 g hl r (need + Nv.size m) (i + 1) hr (by omega) (by omega)
    · rw [if_pos hok]
      refine lim_end ?_
      rw [S26_eq, decide_eq_true (by omega), cond_true, hin, cond_true, hm]
      have a1 : (m != 1) = true := by simp; omega
      have a2 : (m != 2) = true := by simp; omega
      rw [a1, a2]; rfl
theorem v26 (g : Nv.Regs) : evalF Tryz.prog tt call0 [loop26] 26 sR1 [.val .bool] (g, ()) = some (Nv.valid g, ()) := by
  rw [h26_eq]
  have hn := need_len g.2.2.2.2.1
  have iff := valid_iff (r := g)
  have no : ¬ (Nv.modesOk g.2.2.2.2.1 = true ∧ g.2.1 ≤ 2 ∧ (g.2.2.2.1.length : Int) = Nv.need g.2.2.2.2.1 ∧ Nv.need g.2.2.2.2.1 ≤ 18 ∧ (g.2.2.2.2.2.2.length : Int) ≤ 8) → some (false, ()) = some (Nv.valid g, ()) := fun h => by
    cases hv : Nv.valid g with
    | false => rfl
    | true => exact absurd (iff.1 hv) h
  by_cases h1 : g.2.1 > 2
  · rw [decide_eq_true h1, cond_true]; exact no (by omega)
  rw [decide_eq_false h1, cond_false]
  by_cases h2 : (g.2.2.2.2.2.2.length : Int) > 8
  · rw [decide_eq_true h2, cond_true]; exact no (by omega)
  rw [decide_eq_false h2, cond_false]
  by_cases h3 : (g.2.2.2.1.length : Int) > 18
  · rw [decide_eq_true h3, cond_true]; exact no (by omega)
  rw [decide_eq_false h3, cond_false]
  by_cases h4 : (g.2.2.2.2.1.length : Int) > 18
  · rw [decide_eq_true h4, cond_true]; exact no (by omega)
  rw [decide_eq_false h4, cond_false]
  have hl : lim S26 (g, 0, 0, ()) = _ := scan26 g (by omega) g.2.2.2.2.1 0 0 rfl (by omega) (by omega)
  unfold end26
  rw [hl, scanR_spec]
  by_cases hm : Nv.modesOk g.2.2.2.2.1 = true
  · rw [if_pos hm, Int.zero_add]
    show some (Nv.need g.2.2.2.2.1 == (g.2.2.2.1.length : Int), ()) = _
    by_cases he : Nv.need g.2.2.2.2.1 = (g.2.2.2.1.length : Int)
    · rw [iff.2 ⟨hm, by omega, by omega, by omega, by omega⟩, he]; simp
    · rw [beq_eq_false_iff_ne.2 he]; exact no (by omega)
  · rw [if_neg hm]
    exact no (fun h => hm h.1)
theorem k26 : FnOK Tryz.prog 26 sR1 [.val .bool] fun x => bif true then some (Nv.valid x.1, ()) else none := fnDom fun x _ => ⟨_, call0_ok, [loop26], v26 x.1⟩
/-! ### Words, Decode -/
theorem h66_eq (k : Int) : evalF Tryz.prog tt call0 [] 66 sOp [.val tI] (k, ()) = bif k == 1 then some (2, ()) else bif k == 3 then some (2, ()) else bif k == 2 then some (6, ()) else bif k == 4 then some (6, ()) else
    bif k == 31 then some (18, ()) else bif k == 32 then some (18, ()) else some (0, ()) := by kernel_rfl
theorem k66 : FnOK Tryz.prog 66 sOp [.val tI] fun x => bif true then some (Nv.words x.1, ()) else none := fnDom fun x _ => by
  obtain ⟨k, ⟨⟩⟩ := x
  refine ⟨_, call0_ok, [], (h66_eq k).trans ?_⟩
  simp only [bif_eq]
  show _ = some (Nv.words k, ())
  unfold Nv.words
  rw [ite2, ite2, ite2]
  (repeat' split) <;> rfl
theorem k27 : FnOK Tryz.prog 27 sDec rDec fun x => bif inOKb x.1 then some ((decP x.1 x.2.1).1, (decP x.1 x.2.1).2.1, (decP x.1 x.2.1).2.2, ()) else none := fun x y h => by
  obtain ⟨l, i, ⟨⟩⟩ := x
  change (bif inOKb l then some ((decP l i).1, (decP l i).2.1, (decP l i).2.2, ()) else none) = some y at h
  cases hb : inOKb l with
  | false => rw [hb] at h; cases h
  | true =>
    rw [hb] at h
    exact fn16 (l, i, ()) y ((FDec_in (inOKb_ok hb) i).trans ((decP_eq l i).trans h))
end Go.Pv
/-! ### The reference's Wrong, form by form: as the code says it. -/
namespace Go.Pv
open Go.Proofs
set_option maxRecDepth 1000000
structure H3 where
  dV3 : Vc → Bool
  c3 : Vc → Vc
  words : Int → Int
  dForm : Int → Bool
def specsWg (g : H3) (f : Nv.Form) (R : Type) (fn : FuncId) : Option (List V → Mem → Nat → (Eff → Option R) → Option R) :=
  match fn with
  | 31 => some (specD sV1 sV1 (fun x => g.dV3 x.1) fun x => (g.c3 x.1, ()))
  | 66 => some (specD sOp [.val tI] (fun _ => true) fun x => (g.words x.1, ()))
  | 29 => some (specD sOp [.agg tForm] (fun x => g.dForm x.1) fun _ => (f, ()))
  | _ => none
noncomputable def callWg (g : H3) (f : Nv.Form) (R : Type) : CallE R := callsE Tryz.prog tt (specsWg g f R) 20
@[reducible] def sWr : Sig := [.agg tInstr, .agg tRegs]
abbrev O1 := Option (Int × Unit)
def rdL {α : Type} (l : List Db) (i : Int) (k : Db → Option α) : Option α := bif inRange i l.length then k (l.getD i.toNat (0, 0)) else none
def popV {α : Type} (l : List Db) (m : Int) (k : Vc → Option α) : Option α :=
  bif m == 2 then rdL l (w64 (w64 ((l.length : Int) - 3) + 0)) fun a => rdL l (w64 (w64 ((l.length : Int) - 3) + 1)) fun b => rdL l (w64 (w64 ((l.length : Int) - 3) + 2)) fun c => k (a, b, c)
  else rdL l (w64 (w64 ((l.length : Int) - 1) + 0)) fun a => k (a, (0, 0), (0, 0))
def popK {α : Type} (dV3 : Vc → Bool) (c3 : Vc → Vc) (l : List Db) (ms : List Int) (m : Int) (k : List Db → List Int → Vc → Int → Option α) : Option α :=
  bif m == 0 then k l ms Nv.zero3 0 else bif (ms.length : Int) == 0 then k l ms Nv.zero3 14 else
  bif inRange (w64 ((ms.length : Int) - 1)) ms.length then bif ms.getD (w64 ((ms.length : Int) - 1)).toNat 0 != m then k l ms Nv.zero3 6 else
    popV l m fun v => cutK l (w64 ((l.length : Int) - Nv.size m)) fun l' => cutK ms (w64 ((ms.length : Int) - 1)) fun ms' => onlyN (dV3 v) (k l' ms' (c3 v) 0)
  else none
def wordsW (g : H3) (i : Ins) (k : O1) : O1 := onlyN (g.dForm i.1) (bif decide (w64 (i.2.1 + g.words i.1) > 2048) then (bif decide (g.words i.1 > 0) then some (3, ()) else k) else k)
def pushW (f : Nv.Form) (r : Nv.Regs) (k : O1) : O1 := bif f.2.2.2.2 then (bif r.2.1 == 0 then some (6, ()) else k) else k
def modeW (f : Nv.Form) (r : Nv.Regs) (k : O1) : O1 := bif f.1 != 0 then (bif f.1 != r.2.1 then some (6, ()) else pushW f r k) else pushW f r k
def t9W (i : Ins) (k : Bool → O1) : O1 := bif i.1 == 33 then k true else bif i.1 == 34 then k true else k (i.1 == 35)
def outW (r : Nv.Regs) (t : Bool) : O1 := bif t then (bif decide ((r.2.2.2.2.2.2.length : Int) ≥ 8) then some (13, ()) else some (0, ())) else some (0, ())
def endW (f : Nv.Form) (i : Ins) (r : Nv.Regs) : O1 := t9W i fun t =>
  bif f.2.2.2.2 then (bif r.2.1 == 2 then (bif decide (w64 ((r.2.2.2.1.length : Int) + 3) > 18) then some (13, ()) else outW r t) else bif decide (w64 ((r.2.2.2.1.length : Int) + 1) > 18) then some (13, ()) else outW r t) else outW r t
def popW (g : H3) (f : Nv.Form) (i : Ins) (r : Nv.Regs) : O1 :=
  popK g.dV3 g.c3 r.2.2.2.1 r.2.2.2.2.1 f.2.1 fun l ms _ e => bif e == 0 then popK g.dV3 g.c3 l ms f.2.2.1 fun _ _ _ e => bif e != 0 then some (e, ()) else endW f i r else some (e, ())
def wrongK (g : H3) (f : Nv.Form) (i : Ins) (r : Nv.Regs) : O1 := wordsW g i (modeW f r (popW g f i r))
noncomputable abbrev e28 (g : H3) (f : Nv.Form) (i : Ins) (r : Nv.Regs) := evalF Tryz.prog tt (callWg g f) [] 28 sWr [.val tI] (i, r, ())
theorem w28_00010 (g : H3) (i : Ins) (r : Nv.Regs) : e28 g (0, 0, 0, 1, false) i r = wrongK g (0, 0, 0, 1, false) i r := by kernel_rfl
theorem w28_00020 (g : H3) (i : Ins) (r : Nv.Regs) : e28 g (0, 0, 0, 2, false) i r = wrongK g (0, 0, 0, 2, false) i r := by kernel_rfl
theorem w28_10000 (g : H3) (i : Ins) (r : Nv.Regs) : e28 g (1, 0, 0, 0, false) i r = wrongK g (1, 0, 0, 0, false) i r := by kernel_rfl
theorem w28_20000 (g : H3) (i : Ins) (r : Nv.Regs) : e28 g (2, 0, 0, 0, false) i r = wrongK g (2, 0, 0, 0, false) i r := by kernel_rfl
theorem w28_00001 (g : H3) (i : Ins) (r : Nv.Regs) : e28 g (0, 0, 0, 0, true) i r = wrongK g (0, 0, 0, 0, true) i r := by kernel_rfl
theorem w28_01010 (g : H3) (i : Ins) (r : Nv.Regs) : e28 g (0, 1, 0, 1, false) i r = wrongK g (0, 1, 0, 1, false) i r := by kernel_rfl
theorem w28_02020 (g : H3) (i : Ins) (r : Nv.Regs) : e28 g (0, 2, 0, 2, false) i r = wrongK g (0, 2, 0, 2, false) i r := by kernel_rfl
theorem w28_11010 (g : H3) (i : Ins) (r : Nv.Regs) : e28 g (1, 1, 0, 1, false) i r = wrongK g (1, 1, 0, 1, false) i r := by kernel_rfl
theorem w28_10010 (g : H3) (i : Ins) (r : Nv.Regs) : e28 g (1, 0, 0, 1, false) i r = wrongK g (1, 0, 0, 1, false) i r := by kernel_rfl
theorem w28_22020 (g : H3) (i : Ins) (r : Nv.Regs) : e28 g (2, 2, 0, 2, false) i r = wrongK g (2, 2, 0, 2, false) i r := by kernel_rfl
theorem w28_20020 (g : H3) (i : Ins) (r : Nv.Regs) : e28 g (2, 0, 0, 2, false) i r = wrongK g (2, 0, 0, 2, false) i r := by kernel_rfl
theorem w28_22010 (g : H3) (i : Ins) (r : Nv.Regs) : e28 g (2, 2, 0, 1, false) i r = wrongK g (2, 2, 0, 1, false) i r := by kernel_rfl
theorem w28_12020 (g : H3) (i : Ins) (r : Nv.Regs) : e28 g (1, 2, 0, 2, false) i r = wrongK g (1, 2, 0, 2, false) i r := by kernel_rfl
theorem w28_20010 (g : H3) (i : Ins) (r : Nv.Regs) : e28 g (2, 0, 0, 1, false) i r = wrongK g (2, 0, 0, 1, false) i r := by kernel_rfl
theorem w28_11120 (g : H3) (i : Ins) (r : Nv.Regs) : e28 g (1, 1, 1, 2, false) i r = wrongK g (1, 1, 1, 2, false) i r := by kernel_rfl
theorem w28_00000 (g : H3) (i : Ins) (r : Nv.Regs) : e28 g (0, 0, 0, 0, false) i r = wrongK g (0, 0, 0, 0, false) i r := by kernel_rfl
end Go.Pv
/-! ### The reference's Wrong on plain data. -/
namespace Go.Pv
open Go.Proofs
set_option maxRecDepth 1000000
def gWr (f : Nv.Form) : H3 := ⟨wd3B, Nv.map3 Nv.canon, Nv.words, fun k => kn k && decide (Nv.form k = f)⟩
theorem wdB_zero : wdB (0, 0) = true := by decide
/-- words of registers -/
def wdR (r : Nv.Regs) : Bool := wd3B r.2.2.1 && r.2.2.2.1.all wdB
/-- an entry off the end of the lists, an error -/
def popP (l : List Db) (ms : List Int) (m : Int) : List Db × List Int × Vc × Int :=
  if m = 0 then (l, ms, Nv.zero3, 0) else if ms.length = 0 then (l, ms, Nv.zero3, 14) else if ms.getD (ms.length - 1) 0 ≠ m then (l, ms, Nv.zero3, 6) else
  (l.take (l.length - (Nv.size m).toNat), ms.take (ms.length - 1), Nv.map3 Nv.canon (Nv.topV l l.length m), 0)
theorem rdL_eq {α : Type} {l : List Db} {i : Int} (h0 : 0 ≤ i) (h1 : i < l.length) (k : Db → Option α) : rdL l i k = k (l.getD i.toNat (0, 0)) := by
  unfold rdL
  rw [show inRange i l.length = true by simp [inRange]; omega]; rfl
theorem all_getD {l : List Db} (h : l.all wdB = true) (i : Nat) : wdB (l.getD i (0, 0)) = true := by
  by_cases hi : i < l.length
  · have : l.getD i (0, 0) = l[i] := by simp [List.getD, hi]
    rw [this]
    exact List.all_eq_true.1 h _ (List.getElem_mem hi)
  · have : l.getD i (0, 0) = (0, 0) := by simp [List.getD, Nat.not_lt.1 hi]
    rw [this]; decide
theorem popK_eq {α : Type} {l : List Db} {ms : List Int} {m : Int} (hl : l.length ≤ 1000) (hms : ms.length ≤ 1000) (hw : l.all wdB = true) (hn : Nv.need ms = l.length) (k : List Db → List Int → Vc → Int → Option α) :
    popK wd3B (Nv.map3 Nv.canon) l ms m k = k (popP l ms m).1 (popP l ms m).2.1 (popP l ms m).2.2.1 (popP l ms m).2.2.2 := by
  unfold popK popP
  rw [bif_eq]
  by_cases m0 : m = 0
  · rw [if_pos m0, if_pos m0]
  rw [if_neg m0, if_neg m0]
  by_cases h0 : ms.length = 0
  · rw [show ((ms.length : Int) == 0) = true by simp [h0], cond_true, if_pos h0]
  rw [beq_eq_false_iff_ne.2 (show (ms.length : Int) ≠ 0 by omega), cond_false, if_neg h0]
  have e1 : w64 ((ms.length : Int) - 1) = ((ms.length - 1 : Nat) : Int) := by rw [w64_small (by omega) (by omega)]; omega
  rw [e1, show inRange ((ms.length - 1 : Nat) : Int) ms.length = true by simp [inRange]; omega, cond_true, Int.toNat_natCast]
  by_cases hd : ms.getD (ms.length - 1) 0 = m
  · rw [show (ms.getD (ms.length - 1) 0 != m) = false by rw [hd]; simp, cond_false, if_neg (fun h => h hd)]
    have hs := need_last (l := ms) (by omega)
    rw [hd, hn] at hs
    have sp := size_pos m
    have hcut : ∀ (v : Vc), wd3B v = true → v = Nv.topV l l.length m → (cutK l (w64 ((l.length : Int) - Nv.size m)) fun l' => cutK ms ((ms.length - 1 : Nat) : Int) fun ms' => onlyN (wd3B v) (k l' ms' (Nv.map3 Nv.canon v) 0)) =
        k (l.take (l.length - (Nv.size m).toNat)) (ms.take (ms.length - 1)) (Nv.map3 Nv.canon (Nv.topV l l.length m)) 0 := fun v hv e => by
      rw [w64_small (by omega) (by omega), cutK_ok (by omega) (by omega), cutK_ok (by omega) (by omega), onlyT hv, e, Int.toNat_natCast]
      have : ((l.length : Int) - Nv.size m).toNat = l.length - (Nv.size m).toNat := by omega
      rw [this]
    unfold popV
    rw [bif_eq]
    by_cases m2 : m = 2
    · have sz : Nv.size m = 3 := by unfold Nv.size; rw [if_pos m2]
      rw [sz] at hs
      rw [if_pos m2, w64_small (k := (l.length : Int) - 3) (by omega) (by omega), w64_small (k := (l.length : Int) - 3 + 0) (by omega) (by omega), w64_small (k := (l.length : Int) - 3 + 1) (by omega) (by omega), w64_small (k := (l.length : Int) - 3 + 2) (by omega) (by omega),
        rdL_eq (by omega) (by omega), rdL_eq (by omega) (by omega), rdL_eq (by omega) (by omega)]
      refine hcut _ (wd3B_iff.2 ⟨all_getD hw _, all_getD hw _, all_getD hw _⟩) ?_
      unfold Nv.topV
      rw [if_pos m2]
      have a0 : (l.length : Int) - 3 + 0 = (l.length : Int) - 3 := by omega
      have a1 : (l.length : Int) - 3 + 1 = (l.length : Int) - 2 := by omega
      have a2 : (l.length : Int) - 3 + 2 = (l.length : Int) - 1 := by omega
      rw [a0, a1, a2]
    · have sz : Nv.size m = 1 := by unfold Nv.size; rw [if_neg m2]
      rw [sz] at hs
      rw [if_neg m2, w64_small (k := (l.length : Int) - 1) (by omega) (by omega), w64_small (k := (l.length : Int) - 1 + 0) (by omega) (by omega), rdL_eq (by omega) (by omega)]
      refine hcut _ (wd3B_iff.2 ⟨all_getD hw _, wdB_zero, wdB_zero⟩) ?_
      unfold Nv.topV
      rw [if_neg m2]
      have a0 : (l.length : Int) - 1 + 0 = (l.length : Int) - 1 := by omega
      rw [a0]
  · rw [show (ms.getD (ms.length - 1) 0 != m) = true by simp only [bne_iff_ne]; exact hd, cond_true, if_pos hd]
end Go.Pv
/-! ### The reference's Step, form by form: as the code says it. -/
namespace Go.Pv
open Go.Proofs
set_option maxRecDepth 1000000
structure H4 where
  valid : Nv.Regs → Bool
  dec : List Int → Int → Ins × Int × Int
  dDec : List Int → Int → Bool
  wrong : Ins → Nv.Regs → Int
  dWrong : Ins → Nv.Regs → Bool
  dForm : Int → Bool
  dV3 : Vc → Bool
  c3 : Vc → Vc
  res : Ins → Vc → Vc → Vc → List Int → Vc × Bool
  dRes : Ins → Vc → Vc → List Int → Bool
  V : Db → Int
  dD : Db → Bool
def specsSt (g : H4) (f : Nv.Form) (R : Type) (fn : FuncId) : Option (List V → Mem → Nat → (Eff → Option R) → Option R) :=
  match fn with
  | 26 => some (specD sR1 [.val .bool] (fun _ => true) fun x => (g.valid x.1, ()))
  | 27 => some (specD sDec rDec (fun x => g.dDec x.1 x.2.1) fun x => ((g.dec x.1 x.2.1).1, (g.dec x.1 x.2.1).2.1, (g.dec x.1 x.2.1).2.2, ()))
  | 28 => some (specD sWr [.val tI] (fun x => g.dWrong x.1 x.2.1) fun x => (g.wrong x.1 x.2.1, ()))
  | 29 => some (specD sOp [.agg tForm] (fun x => g.dForm x.1) fun _ => (f, ()))
  | 31 => some (specD sV1 sV1 (fun x => g.dV3 x.1) fun x => (g.c3 x.1, ()))
  | 33 => some (specD sCmp rVB (fun x => g.dRes x.1 x.2.1 x.2.2.2.1 x.2.2.2.2.1) fun x => ((g.res x.1 x.2.1 x.2.2.1 x.2.2.2.1 x.2.2.2.2.1).1, (g.res x.1 x.2.1 x.2.2.1 x.2.2.2.1 x.2.2.2.2.1).2, ()))
  | 35 => some (specD sD1 [.val tI] (fun x => g.dD x.1) fun x => (g.V x.1, ()))
  | _ => none
noncomputable def callSt (g : H4) (f : Nv.Form) (R : Type) : CallE R := callsE Tryz.prog tt (specsSt g f R) 20
def resQ (f : Nv.Form) (next : Int) (L : List Db) (M : List Int) (U : List Nv.Out) (v : Vc) (o : Bool) : Option Nv.Res :=
  some ((next, f.2.2.2.1, (bif f.2.2.2.1 == 1 then (v.1, (0, 0), (0, 0)) else v), L, M, o, U), [], 0, 0, 0, ())
def outT (g : H4) (f : Nv.Form) (i : Ins) (next : Int) (er : List Int) (r : Nv.Regs) (a p q : Vc) (L : List Db) (M : List Int) (U : List Nv.Out) : Option Nv.Res :=
  onlyN (g.dRes i p a er) (bif r.2.2.2.2.2.1 then resQ f next L M U (g.res i p q a er).1 true else resQ f next L M U (g.res i p q a er).1 (g.res i p q a er).2)
def retQ (next : Int) (r : Nv.Regs) (L : List Db) (M : List Int) (U : List Nv.Out) (cs : List Nv.Cell) (ev n : Int) : Option Nv.Res := some ((next, r.2.1, r.2.2.1, L, M, r.2.2.2.2.2.1, U), cs, ev, n, 0, ())
def swQ (g : H4) (i : Ins) (next : Int) (r : Nv.Regs) (a : Vc) (L : List Db) (M : List Int) (U : List Nv.Out) (cs : List Nv.Cell) : Option Nv.Res :=
  bif i.1 == 33 then app (U ++ [(i.1, i.2.1, a.1)]) fun U => retQ next r L M U cs 0 0 else bif i.1 == 34 then app (U ++ [(i.1, i.2.1, a.1)]) fun U => retQ next r L M U cs 0 0 else
  bif i.1 == 35 then app (U ++ [(i.1, i.2.1, a.1)]) fun U => retQ next r L M U cs 0 0 else
  bif i.1 == 36 then retQ next r L M U [] 1 i.2.1 else bif i.1 == 37 then onlyN (g.dD a.1) (bif decide (g.V a.1 < 0) then retQ next r L M U [] 1 i.2.1 else retQ next r L M U [] 1 i.2.2.1) else
  bif i.1 == 38 then retQ next r L M U [] 2 0 else retQ next r L M U cs 0 0
def cellQ (f : Nv.Form) (i : Ins) (a : Vc) : List Nv.Cell := bif f.1 == 2 then cl2 i.2.1 0 a.1 ++ (cl2 i.2.1 2 a.2.1 ++ cl2 i.2.1 4 a.2.2) else cl2 i.2.1 0 a.1
def csQ (g : H4) (f : Nv.Form) (i : Ins) (next : Int) (r : Nv.Regs) (a : Vc) (L : List Db) (M : List Int) (U : List Nv.Out) : Option Nv.Res :=
  bif i.1 == 3 then swQ g i next r a L M U (cellQ f i a) else bif i.1 == 4 then swQ g i next r a L M U (cellQ f i a) else swQ g i next r a L M U []
def pushQ (m : Int) (a : Vc) (L : List Db) (k : List Db → Option Nv.Res) : Option Nv.Res :=
  let s1 (L : List Db) : Option Nv.Res := bif m == 2 then app (L ++ [a.2.1]) fun L => bif m == 2 then app (L ++ [a.2.2]) fun L => bif m == 2 then k L else k L else k L else k L
  bif m == 2 then app (L ++ [a.1]) s1 else app (L ++ [a.1]) s1
def mvT (g : H4) (f : Nv.Form) (i : Ins) (next : Int) (r : Nv.Regs) (a : Vc) (L : List Db) (M : List Int) (U : List Nv.Out) : Option Nv.Res :=
  bif f.2.2.2.2 then pushQ r.2.1 a L fun L => app (M ++ [r.2.1]) fun M => csQ g f i next r a L M U else csQ g f i next r a L M U
def bodyT (g : H4) (f : Nv.Form) (i : Ins) (next : Int) (er : List Int) (r : Nv.Regs) : Option Nv.Res :=
  onlyN (g.dForm i.1) (app r.2.2.2.1 fun L => app r.2.2.2.2.1 fun M => app r.2.2.2.2.2.2 fun U => onlyN (g.dV3 r.2.2.1)
    (popK g.dV3 g.c3 L M f.2.1 fun L M p _ => popK g.dV3 g.c3 L M f.2.2.1 fun L M q _ =>
      bif f.2.2.2.1 != 0 then outT g f i next er r (g.c3 r.2.2.1) p q L M U else mvT g f i next r (g.c3 r.2.2.1) L M U))
def stepT' (g : H4) (f : Nv.Form) (code er : List Int) (r : Nv.Regs) : Option Nv.Res :=
  bif !(g.valid r) then errS 2 else onlyN (g.dDec code r.1) (
  bif (g.dec code r.1).2.2 == 0 then onlyN (g.dWrong (g.dec code r.1).1 r) (bif g.wrong (g.dec code r.1).1 r != 0 then errS (g.wrong (g.dec code r.1).1 r) else bodyT g f (g.dec code r.1).1 (g.dec code r.1).2.1 er r)
  else bif (g.dec code r.1).2.2 != 0 then errS (g.dec code r.1).2.2 else bodyT g f (g.dec code r.1).1 (g.dec code r.1).2.1 er r)
noncomputable abbrev e8 (g : H4) (f : Nv.Form) (code er : List Int) (r : Nv.Regs) := evalT Tryz.prog tt (callSt g f) [] [] 8 sStep rStep (code, er, r, ())
theorem s8_00010 (g : H4) (code er : List Int) (r : Nv.Regs) : e8 g (0, 0, 0, 1, false) code er r = stepT' g (0, 0, 0, 1, false) code er r := by kernel_rfl
theorem s8_00020 (g : H4) (code er : List Int) (r : Nv.Regs) : e8 g (0, 0, 0, 2, false) code er r = stepT' g (0, 0, 0, 2, false) code er r := by kernel_rfl
theorem s8_10000 (g : H4) (code er : List Int) (r : Nv.Regs) : e8 g (1, 0, 0, 0, false) code er r = stepT' g (1, 0, 0, 0, false) code er r := by kernel_rfl
theorem s8_20000 (g : H4) (code er : List Int) (r : Nv.Regs) : e8 g (2, 0, 0, 0, false) code er r = stepT' g (2, 0, 0, 0, false) code er r := by kernel_rfl
theorem s8_00001 (g : H4) (code er : List Int) (r : Nv.Regs) : e8 g (0, 0, 0, 0, true) code er r = stepT' g (0, 0, 0, 0, true) code er r := by kernel_rfl
theorem s8_01010 (g : H4) (code er : List Int) (r : Nv.Regs) : e8 g (0, 1, 0, 1, false) code er r = stepT' g (0, 1, 0, 1, false) code er r := by kernel_rfl
theorem s8_02020 (g : H4) (code er : List Int) (r : Nv.Regs) : e8 g (0, 2, 0, 2, false) code er r = stepT' g (0, 2, 0, 2, false) code er r := by kernel_rfl
theorem s8_11010 (g : H4) (code er : List Int) (r : Nv.Regs) : e8 g (1, 1, 0, 1, false) code er r = stepT' g (1, 1, 0, 1, false) code er r := by kernel_rfl
theorem s8_10010 (g : H4) (code er : List Int) (r : Nv.Regs) : e8 g (1, 0, 0, 1, false) code er r = stepT' g (1, 0, 0, 1, false) code er r := by kernel_rfl
theorem s8_22020 (g : H4) (code er : List Int) (r : Nv.Regs) : e8 g (2, 2, 0, 2, false) code er r = stepT' g (2, 2, 0, 2, false) code er r := by kernel_rfl
theorem s8_20020 (g : H4) (code er : List Int) (r : Nv.Regs) : e8 g (2, 0, 0, 2, false) code er r = stepT' g (2, 0, 0, 2, false) code er r := by kernel_rfl
theorem s8_22010 (g : H4) (code er : List Int) (r : Nv.Regs) : e8 g (2, 2, 0, 1, false) code er r = stepT' g (2, 2, 0, 1, false) code er r := by kernel_rfl
theorem s8_12020 (g : H4) (code er : List Int) (r : Nv.Regs) : e8 g (1, 2, 0, 2, false) code er r = stepT' g (1, 2, 0, 2, false) code er r := by kernel_rfl
theorem s8_20010 (g : H4) (code er : List Int) (r : Nv.Regs) : e8 g (2, 0, 0, 1, false) code er r = stepT' g (2, 0, 0, 1, false) code er r := by kernel_rfl
theorem s8_00000 (g : H4) (code er : List Int) (r : Nv.Regs) : e8 g (0, 0, 0, 0, false) code er r = stepT' g (0, 0, 0, 0, false) code er r := by kernel_rfl
/-! ### Operation 30: two pops -/
def lenO {α : Type} (l : List α) (o : Option Nat) : Nat := match o with
  | none => l.length
  | some h => h
def cutO {α : Type} (l : List α) (o : Option Nat) : List α := match o with
  | none => l
  | some h => sliceFz l 0 (some h)
def rdO {α : Type} (l : List Db) (o : Option Nat) (i : Int) (k : Db → Option α) : Option α := bif inRange i (lenO l o) then k (l.getD i.toNat (0, 0)) else none
def hiO {α : Type} (n : Nat) (h : Int) (k : Option Nat → Option α) : Option α := bif decide (0 ≤ h) && decide (h ≤ (n : Int)) then k (some h.toNat) else none
/-- a pop of one double, of rows that may have been cut -/
def popO {α : Type} (dV3 : Vc → Bool) (c3 : Vc → Vc) (l : List Db) (ol : Option Nat) (ms : List Int) (om : Option Nat) (k : Option Nat → Option Nat → Vc → Option α) : Option α :=
  bif (lenO ms om : Int) == 0 then k ol om Nv.zero3 else
  bif inRange (w64 ((lenO ms om : Int) - 1)) (lenO ms om) then bif ms.getD (w64 ((lenO ms om : Int) - 1)).toNat 0 != 1 then k ol om Nv.zero3 else
    rdO l ol (w64 (w64 ((lenO l ol : Int) - 1) + 0)) fun a => hiO (lenO l ol) (w64 ((lenO l ol : Int) - 1)) fun ol' => hiO (lenO ms om) (w64 ((lenO ms om : Int) - 1)) fun om' => onlyN (dV3 (a, (0, 0), (0, 0))) (k ol' om' (c3 (a, (0, 0), (0, 0))))
  else none
def bodyO (g : H4) (f : Nv.Form) (i : Ins) (next : Int) (er : List Int) (r : Nv.Regs) : Option Nv.Res :=
  onlyN (g.dForm i.1) (app r.2.2.2.1 fun L => app r.2.2.2.2.1 fun M => app r.2.2.2.2.2.2 fun U => onlyN (g.dV3 r.2.2.1)
    (popO g.dV3 g.c3 L none M none fun ol om p => popO g.dV3 g.c3 L ol M om fun ol om q => outT g f i next er r (g.c3 r.2.2.1) p q (cutO L ol) (cutO M om) U))
def stepO (g : H4) (f : Nv.Form) (code er : List Int) (r : Nv.Regs) : Option Nv.Res :=
  bif !(g.valid r) then errS 2 else onlyN (g.dDec code r.1) (
  bif (g.dec code r.1).2.2 == 0 then onlyN (g.dWrong (g.dec code r.1).1 r) (bif g.wrong (g.dec code r.1).1 r != 0 then errS (g.wrong (g.dec code r.1).1 r) else bodyO g f (g.dec code r.1).1 (g.dec code r.1).2.1 er r)
  else bif (g.dec code r.1).2.2 != 0 then errS (g.dec code r.1).2.2 else bodyO g f (g.dec code r.1).1 (g.dec code r.1).2.1 er r)
theorem s8_11120 (g : H4) (code er : List Int) (r : Nv.Regs) : e8 g (1, 1, 1, 2, false) code er r = stepO g (1, 1, 1, 2, false) code er r := by kernel_rfl
end Go.Pv
/-! ### The reference's Wrong answers as the plain text says. -/
namespace Go.Pv
open Go.Proofs
set_option maxRecDepth 1000000
/-- lists that belong together -/
def Fit2 (l : List Db) (ms : List Int) : Prop := l.length ≤ 18 ∧ ms.length ≤ 18 ∧ l.all wdB = true ∧ Nv.need ms = l.length
theorem need_init {ms : List Int} (h : 1 ≤ ms.length) : Nv.need (ms.take (ms.length - 1)) = Nv.need ms - Nv.size (ms.getD (ms.length - 1) 0) := by
  have e : ms = ms.take (ms.length - 1) ++ [ms.getD (ms.length - 1) 0] := by
    apply List.ext_getElem?
    intro i
    by_cases hi : i < ms.length - 1
    · rw [List.getElem?_append_left (by simp; omega), List.getElem?_take_of_lt hi]
    · rw [List.getElem?_append_right (by simp; omega)]
      by_cases hi2 : i = ms.length - 1
      · subst hi2
        simp [List.getD, List.getElem?_eq_getElem (show ms.length - 1 < ms.length by omega)]
      · rw [List.getElem?_eq_none (by omega), List.getElem?_eq_none (by simp; omega)]
  have h2 := congrArg Nv.need e
  rw [need_append] at h2
  simp only [Nv.need] at h2
  omega
theorem all_take {l : List Db} (h : l.all wdB = true) (n : Nat) : (l.take n).all wdB = true := by
  rw [List.all_eq_true] at *
  exact fun x hx => h x (List.mem_of_mem_take hx)
theorem popP_fit {l : List Db} {ms : List Int} (h : Fit2 l ms) (m : Int) : Fit2 (popP l ms m).1 (popP l ms m).2.1 := by
  obtain ⟨h1, h2, h3, h4⟩ := h
  unfold popP
  by_cases m0 : m = 0
  · rw [if_pos m0]; exact ⟨h1, h2, h3, h4⟩
  rw [if_neg m0]
  by_cases h0 : ms.length = 0
  · rw [if_pos h0]; exact ⟨h1, h2, h3, h4⟩
  rw [if_neg h0]
  by_cases hd : ms.getD (ms.length - 1) 0 = m
  · rw [if_neg (fun h => h hd)]
    have hs := need_last (l := ms) (by omega)
    have hi := need_init (ms := ms) (by omega)
    rw [hd] at hs hi
    have sp := size_pos m
    refine ⟨by simp only [List.length_take]; omega, by simp only [List.length_take]; omega, all_take h3 _, ?_⟩
    simp only [List.length_take]
    rw [hi]; omega
  · rw [if_pos hd]; exact ⟨h1, h2, h3, h4⟩
def wrongP (i : Ins) (r : Nv.Regs) : Int :=
  if Nv.check i r ≠ 0 then Nv.check i r else
  let a := popP r.2.2.2.1 r.2.2.2.2.1 (Nv.form i.1).2.1
  if a.2.2.2 ≠ 0 then a.2.2.2 else
  let b := popP a.1 a.2.1 (Nv.form i.1).2.2.1
  if b.2.2.2 ≠ 0 then b.2.2.2 else
  if (Nv.form i.1).2.2.2.2 = true ∧ (r.2.2.2.1.length : Int) + Nv.size r.2.1 > 18 then 13 else
  if (i.1 = 33 ∨ i.1 = 34 ∨ i.1 = 35) ∧ (r.2.2.2.2.2.2.length : Int) ≥ 8 then 13 else 0
theorem t9W_eq (i : Ins) (k : Bool → O1) : t9W i k = k (decide (i.1 = 33 ∨ i.1 = 34 ∨ i.1 = 35)) := by
  unfold t9W
  rw [bif_eq, bif_eq]
  by_cases h1 : i.1 = 33
  · rw [if_pos h1, decide_eq_true (.inl h1)]
  rw [if_neg h1]
  by_cases h2 : i.1 = 34
  · rw [if_pos h2, decide_eq_true (.inr (.inl h2))]
  rw [if_neg h2]
  congr 1
  by_cases h3 : i.1 = 35
  · rw [h3]; rfl
  · rw [beq_eq_false_iff_ne.2 h3, decide_eq_false (by omega)]
theorem endW_eq (f : Nv.Form) (i : Ins) (r : Nv.Regs) (hl : r.2.2.2.1.length ≤ 18) : endW f i r = some (if f.2.2.2.2 = true ∧ (r.2.2.2.1.length : Int) + Nv.size r.2.1 > 18 then 13 else
    if (i.1 = 33 ∨ i.1 = 34 ∨ i.1 = 35) ∧ (r.2.2.2.2.2.2.length : Int) ≥ 8 then 13 else 0, ()) := by
  unfold endW
  rw [t9W_eq]
  have ho : outW r (decide (i.1 = 33 ∨ i.1 = 34 ∨ i.1 = 35)) = some (if (i.1 = 33 ∨ i.1 = 34 ∨ i.1 = 35) ∧ (r.2.2.2.2.2.2.length : Int) ≥ 8 then 13 else 0, ()) := by
    unfold outW
    by_cases h : i.1 = 33 ∨ i.1 = 34 ∨ i.1 = 35
    · rw [decide_eq_true h, cond_true]
      by_cases h8 : (r.2.2.2.2.2.2.length : Int) ≥ 8
      · rw [decide_eq_true h8, if_pos ⟨h, h8⟩]; rfl
      · rw [decide_eq_false h8, if_neg (fun hh => h8 hh.2)]; rfl
    · rw [decide_eq_false h, if_neg (fun hh => h hh.1)]; rfl
  rw [ho]
  generalize (if (i.1 = 33 ∨ i.1 = 34 ∨ i.1 = 35) ∧ (r.2.2.2.2.2.2.length : Int) ≥ 8 then (13 : Int) else 0) = z
  cases hp : f.2.2.2.2 with
  | false => rw [if_neg (by simp)]; rfl
  | true =>
    rw [cond_true, bif_eq]
    unfold Nv.size
    by_cases h2 : r.2.1 = 2
    · rw [if_pos h2, if_pos h2, w64_small (by omega) (by omega)]
      by_cases hf : (r.2.2.2.1.length : Int) + 3 > 18
      · rw [decide_eq_true hf, if_pos ⟨rfl, hf⟩]; rfl
      · rw [decide_eq_false hf, if_neg (fun hh => hf hh.2)]; rfl
    · rw [if_neg h2, if_neg h2, w64_small (by omega) (by omega)]
      by_cases hf : (r.2.2.2.1.length : Int) + 1 > 18
      · rw [decide_eq_true hf, if_pos ⟨rfl, hf⟩]; rfl
      · rw [decide_eq_false hf, if_neg (fun hh => hf hh.2)]; rfl
theorem wordsW_eq {i : Ins} {f : Nv.Form} (hi : Fits i) (hk : kn i.1 = true) (hf : Nv.form i.1 = f) (k : O1) : wordsW (gWr f) i k = if Nv.words i.1 > 0 ∧ i.2.1 + Nv.words i.1 - 1 > 2047 then some (3, ()) else k := by
  have hw : 0 ≤ Nv.words i.1 ∧ Nv.words i.1 ≤ 18 := by unfold Nv.words; (repeat' split) <;> omega
  obtain ⟨_, h2, _⟩ := hi
  unfold wordsW
  rw [onlyT (show (gWr f).dForm i.1 = true from Bool.and_eq_true_iff.2 ⟨hk, decide_eq_true hf⟩)]
  show (bif decide (w64 (i.2.1 + Nv.words i.1) > 2048) then (bif decide (Nv.words i.1 > 0) then some (3, ()) else k) else k) = _
  rw [w64_small (by omega) (by omega)]
  by_cases h3 : i.2.1 + Nv.words i.1 > 2048
  · rw [decide_eq_true h3, cond_true]
    by_cases h4 : Nv.words i.1 > 0
    · rw [decide_eq_true h4, if_pos ⟨h4, by omega⟩]; rfl
    · rw [decide_eq_false h4, if_neg (fun h => h4 h.1)]; rfl
  · rw [decide_eq_false h3, if_neg (fun h => h3 (by omega))]; rfl
theorem modeW_eq (f : Nv.Form) (r : Nv.Regs) (k : O1) : modeW f r k = if (f.1 ≠ 0 ∧ r.2.1 ≠ f.1) ∨ (f.2.2.2.2 = true ∧ r.2.1 = 0) then some (6, ()) else k := by
  have hp : pushW f r k = if f.2.2.2.2 = true ∧ r.2.1 = 0 then some (6, ()) else k := by
    unfold pushW
    cases f.2.2.2.2 with
    | false => rw [if_neg (by simp)]; rfl
    | true =>
      rw [cond_true, bif_eq]
      by_cases h : r.2.1 = 0
      · rw [if_pos h, if_pos ⟨rfl, h⟩]
      · rw [if_neg h, if_neg (fun hh => h hh.2)]
  unfold modeW
  rw [hp]
  by_cases h1 : f.1 = 0
  · rw [show (f.1 != 0) = false by simp [h1], cond_false]
    by_cases h2 : f.2.2.2.2 = true ∧ r.2.1 = 0
    · rw [if_pos h2, if_pos (.inr h2)]
    · rw [if_neg h2, if_neg (fun h => h.elim (fun h => h.1 h1) h2)]
  · rw [show (f.1 != 0) = true by simp [h1], cond_true]
    by_cases h3 : r.2.1 = f.1
    · rw [show (f.1 != r.2.1) = false by simp [h3], cond_false]
      by_cases h2 : f.2.2.2.2 = true ∧ r.2.1 = 0
      · rw [if_pos h2, if_pos (.inr h2)]
      · rw [if_neg h2, if_neg (fun h => h.elim (fun h => h.2 h3) h2)]
    · rw [show (f.1 != r.2.1) = true by simp; exact fun h => h3 h.symm, cond_true, if_pos (.inl ⟨h1, h3⟩)]
theorem fit2_of {r : Nv.Regs} (hv : Nv.valid r = true) (hw : wdR r = true) : Fit2 r.2.2.2.1 r.2.2.2.2.1 := by
  obtain ⟨_, _, v3, v4, _⟩ := valid_iff.1 hv
  have hn := need_len r.2.2.2.2.1
  exact ⟨by omega, by omega, (Bool.and_eq_true_iff.1 hw).2, v3.symm⟩
theorem wrongK_eq {i : Ins} {f : Nv.Form} {r : Nv.Regs} (hi : Fits i) (hf : Nv.form i.1 = f) (hv : Nv.valid r = true) (hw : wdR r = true) : wrongK (gWr f) f i r = some (wrongP i r, ()) := by
  have ft := fit2_of hv hw
  have ft2 := popP_fit ft f.2.1
  unfold wrongK wrongP
  rw [wordsW_eq hi (kn_iff.2 hi.1) hf, modeW_eq]
  unfold Nv.check Nv.checkF
  rw [hf]
  by_cases h1 : Nv.words i.1 > 0 ∧ i.2.1 + Nv.words i.1 - 1 > 2047
  · rw [if_pos h1, if_pos h1, if_pos (by decide)]
  rw [if_neg h1, if_neg h1]
  by_cases h2 : (f.1 ≠ 0 ∧ r.2.1 ≠ f.1) ∨ (f.2.2.2.2 = true ∧ r.2.1 = 0)
  · rw [if_pos h2, if_pos h2, if_pos (by decide)]
  rw [if_neg h2, if_neg h2, if_neg (by decide)]
  unfold popW
  show popK wd3B (Nv.map3 Nv.canon) _ _ _ _ = _
  rw [popK_eq (by have := ft.1; omega) (by have := ft.2.1; omega) ft.2.2.1 ft.2.2.2]
  simp only
  by_cases h3 : (popP r.2.2.2.1 r.2.2.2.2.1 f.2.1).2.2.2 = 0
  · rw [show ((popP r.2.2.2.1 r.2.2.2.2.1 f.2.1).2.2.2 == 0) = true by simp [h3], cond_true, if_neg (fun h => h h3)]
    show popK wd3B (Nv.map3 Nv.canon) _ _ _ _ = _
    rw [popK_eq (by have := ft2.1; omega) (by have := ft2.2.1; omega) ft2.2.2.1 ft2.2.2.2]
    by_cases h4 : (popP (popP r.2.2.2.1 r.2.2.2.2.1 f.2.1).1 (popP r.2.2.2.1 r.2.2.2.2.1 f.2.1).2.1 f.2.2.1).2.2.2 = 0
    · rw [if_neg (fun h => h h4), h4, endW_eq f i r ft.1]; rfl
    · rw [if_pos h4, bne_iff_ne.2 h4]; rfl
  · rw [beq_eq_false_iff_ne.2 h3, cond_false, if_pos h3]
end Go.Pv
/-! ### The reference's Wrong: its answer, for every instruction. -/
namespace Go.Pv
open Go.Proofs
set_option maxRecDepth 1000000
instance (i : Ins) : Decidable (Fits i) := by unfold Fits; infer_instance
def dWrong (i : Ins) (r : Nv.Regs) : Bool := decide (Fits i) && (Nv.valid r && wdR r)
theorem okWg (f : Nv.Form) (R : Type) : CallsOK Tryz.prog (callWg (gWr f) f R) := callsE_ok tt_ok mixed names (fun fn s hs => by
  unfold specsWg at hs
  split at hs
  · cases hs; exact specD_ok k31 flatV (cntN 31 (by kernel_rfl))
  · cases hs; exact specD_ok k66 flat_int (cntN 66 (by kernel_rfl))
  · cases hs
    refine specD_ok (k29.of fun x y h => ?_) flat_form (cntN 29 (by kernel_rfl))
    obtain ⟨k, ⟨⟩⟩ := x
    change (bif kn k && decide (Nv.form k = f) then some (f, ()) else none) = some y at h
    show (bif kn k then some (Nv.form k, ()) else none) = some y
    cases h1 : kn k with
    | false => rw [h1] at h; cases h
    | true =>
      by_cases h2 : Nv.form k = f
      · rw [h1, decide_eq_true h2] at h
        rw [h2]; exact h
      · rw [h1, decide_eq_false h2] at h; cases h
  · cases hs) 20
def allForms : List Nv.Form := [(0, 0, 0, 1, false), (0, 0, 0, 2, false), (1, 0, 0, 0, false), (2, 0, 0, 0, false), (0, 0, 0, 0, true), (0, 1, 0, 1, false), (0, 2, 0, 2, false), (1, 1, 0, 1, false), (1, 0, 0, 1, false), (2, 2, 0, 2, false), (2, 0, 0, 2, false), (2, 2, 0, 1, false), (1, 2, 0, 2, false), (2, 0, 0, 1, false), (1, 1, 1, 2, false), (0, 0, 0, 0, false)]
theorem forms16 : each38 (fun k => decide (Nv.form k ∈ allForms)) = true := by decide +kernel
theorem e28_all {f : Nv.Form} (h : f ∈ allForms) (g : H3) (i : Ins) (r : Nv.Regs) : e28 g f i r = wrongK g f i r := by
  simp only [allForms, List.mem_cons, List.not_mem_nil, or_false] at h
  rcases h with rfl | rfl | rfl | rfl | rfl | rfl | rfl | rfl | rfl | rfl | rfl | rfl | rfl | rfl | rfl | rfl
  · exact w28_00010 g i r
  · exact w28_00020 g i r
  · exact w28_10000 g i r
  · exact w28_20000 g i r
  · exact w28_00001 g i r
  · exact w28_01010 g i r
  · exact w28_02020 g i r
  · exact w28_11010 g i r
  · exact w28_10010 g i r
  · exact w28_22020 g i r
  · exact w28_20020 g i r
  · exact w28_22010 g i r
  · exact w28_12020 g i r
  · exact w28_20010 g i r
  · exact w28_11120 g i r
  · exact w28_00000 g i r
theorem k28 : FnOK Tryz.prog 28 sWr [.val tI] fun x => bif dWrong x.1 x.2.1 then some (wrongP x.1 x.2.1, ()) else none := fnDom fun x hx => by
  obtain ⟨i, r, ⟨⟩⟩ := x
  simp only [dWrong, Bool.and_eq_true, decide_eq_true_eq] at hx
  obtain ⟨hi, hv, hw⟩ := hx
  exact ⟨_, okWg (Nv.form i.1), [], (e28_all (of_decide_eq_true (each38_at forms16 hi.1.1 hi.1.2)) _ i r).trans (wrongK_eq hi rfl hv hw)⟩
end Go.Pv
/-! ### The reference's Step on plain data. -/
namespace Go.Pv
open Go.Proofs
set_option maxRecDepth 1000000
noncomputable def gSt (f : Nv.Form) : H4 := { valid := Nv.valid, dec := decP, dDec := fun l _ => inOKb l, wrong := wrongP, dWrong := dWrong, dForm := fun k => kn k && decide (Nv.form k = f), dV3 := wd3B, c3 := Nv.map3 Nv.canon, res := resR, dRes := dRes, V := Nv.V, dD := wdB }
theorem okSt (f : Nv.Form) (R : Type) : CallsOK Tryz.prog (callSt (gSt f) f R) := callsE_ok tt_ok mixed names (fun fn s hs => by
  unfold specsSt at hs
  split at hs
  · cases hs; exact specD_ok k26 flat_bool (cntN 26 (by kernel_rfl))
  · cases hs; exact specD_ok k27 flatDec (cntN 27 (by kernel_rfl))
  · cases hs; exact specD_ok k28 flat_int (cntN 28 (by kernel_rfl))
  · cases hs
    refine specD_ok (k29.of fun x y h => ?_) flat_form (cntN 29 (by kernel_rfl))
    obtain ⟨k, ⟨⟩⟩ := x
    change (bif kn k && decide (Nv.form k = f) then some (f, ()) else none) = some y at h
    show (bif kn k then some (Nv.form k, ()) else none) = some y
    cases h1 : kn k with
    | false => rw [h1] at h; cases h
    | true =>
      by_cases h2 : Nv.form k = f
      · rw [h1, decide_eq_true h2] at h
        rw [h2]; exact h
      · rw [h1, decide_eq_false h2] at h; cases h
  · cases hs; exact specD_ok k31 flatV (cntN 31 (by kernel_rfl))
  · cases hs; exact specD_ok k33 flatVB (cntN 33 (by kernel_rfl))
  · cases hs; exact specD_ok h35 flat_int (cntN 35 (by kernel_rfl))
  · cases hs) 20
theorem e8_all {f : Nv.Form} (h : f ∈ allForms) (h30 : f ≠ (1, 1, 1, 2, false)) (g : H4) (code er : List Int) (r : Nv.Regs) : e8 g f code er r = stepT' g f code er r := by
  simp only [allForms, List.mem_cons, List.not_mem_nil, or_false] at h
  rcases h with rfl | rfl | rfl | rfl | rfl | rfl | rfl | rfl | rfl | rfl | rfl | rfl | rfl | rfl | rfl | rfl
  · exact s8_00010 g code er r
  · exact s8_00020 g code er r
  · exact s8_10000 g code er r
  · exact s8_20000 g code er r
  · exact s8_00001 g code er r
  · exact s8_01010 g code er r
  · exact s8_02020 g code er r
  · exact s8_11010 g code er r
  · exact s8_10010 g code er r
  · exact s8_22020 g code er r
  · exact s8_20020 g code er r
  · exact s8_22010 g code er r
  · exact s8_12020 g code er r
  · exact s8_20010 g code er r
  · exact absurd rfl h30
  · exact s8_00000 g code er r
/-! ### What the reference does -/
def execR (i : Ins) (next : Int) (er : List Int) (r : Nv.Regs) : Nv.Res :=
  let a := popP r.2.2.2.1 r.2.2.2.2.1 (Nv.form i.1).2.1
  let b := popP a.1 a.2.1 (Nv.form i.1).2.2.1
  let v := resR i a.2.2.1 b.2.2.1 (Nv.map3 Nv.canon r.2.2.1) er
  if (Nv.form i.1).2.2.2.1 ≠ 0 then ((next, (Nv.form i.1).2.2.2.1, (if (Nv.form i.1).2.2.2.1 = 1 then (v.1.1, (0, 0), (0, 0)) else v.1), b.1, b.2.1, r.2.2.2.2.2.1 || v.2, r.2.2.2.2.2.2), [], 0, 0, 0, ())
  else Nv.move i (next, r.2.1, r.2.2.1, b.1, b.2.1, r.2.2.2.2.2.1, r.2.2.2.2.2.2) (Nv.map3 Nv.canon r.2.2.1)
def stepR (code er : List Int) (r : Nv.Regs) : Nv.Res :=
  if Nv.valid r = true then (if (decP code r.1).2.2 ≠ 0 then Nv.err (decP code r.1).2.2 else if wrongP (decP code r.1).1 r ≠ 0 then Nv.err (wrongP (decP code r.1).1 r) else execR (decP code r.1).1 (decP code r.1).2.1 er r) else Nv.err 2
end Go.Pv
/-! ### What an instruction computes depends on the values alone; its results are canonical. -/
namespace Go.Nv
theorem V_map1 (a : Vc) : V (map3 canon a).1 = V a.1 := V_canon _
theorem V_map2 (a : Vc) : V (map3 canon a).2.1 = V a.2.1 := V_canon _
theorem V_map3 (a : Vc) : V (map3 canon a).2.2 = V a.2.2 := V_canon _
theorem cn_D {v : Int} (h : In v) : Cn (D v) := ⟨v, rfl, h⟩
theorem cn_cl (v : Int) : Cn (D (cl v).1) := ⟨_, rfl, cl_in v⟩
theorem neg_in {v : Int} (h : In v) : In (-v) := by unfold In at *; omega
/-! ### scalars -/
theorem add_c {p q a b : Db} (hp : V p = V q) (ha : V a = V b) : add p a = add q b := by unfold add; rw [hp, ha]
theorem sub_c {p q a b : Db} (hp : V p = V q) (ha : V a = V b) : sub p a = sub q b := by unfold sub; rw [hp, ha]
theorem mul_c {p q a b : Db} (hp : V p = V q) (ha : V a = V b) : mul p a = mul q b := by unfold mul; rw [hp, ha]
theorem div_c {p q a b : Db} (hp : V p = V q) (ha : V a = V b) : div p a = div q b := by unfold div; rw [hp, ha]
theorem neg_c {a b : Db} (ha : V a = V b) : neg a = neg b := by unfold neg; rw [ha]
theorem abs_c {a b : Db} (ha : V a = V b) : abs a = abs b := by unfold abs; rw [ha]
theorem sqrt_c {a b : Db} (ha : V a = V b) : sqrt a = sqrt b := by unfold sqrt; rw [ha]
theorem sin_c {a b : Db} (ha : V a = V b) : sin a = sin b := by unfold sin; rw [ha]
theorem cos_c {a b : Db} (ha : V a = V b) : cos a = cos b := by unfold cos; rw [ha]
theorem shift_c {a b : Db} (ha : V a = V b) (n : Int) : shift a n = shift b n := by unfold shift; rw [ha]
theorem cn_add (p a : Db) : Cn (add p a).1 := cn_clD _
theorem cn_sub (p a : Db) : Cn (sub p a).1 := cn_clD _
theorem cn_mul (p a : Db) : Cn (mul p a) := cn_cl _
theorem cn_div1 (v w : Int) : Cn (div1 v w).1 := by
  unfold div1
  split
  · exact cn_cl _
  · split
    · exact cn_zero
    · split
      · exact ⟨-268435455, rfl, by unfold In; omega⟩
      · exact ⟨268435455, rfl, by unfold In; omega⟩
theorem cn_div (p a : Db) : Cn (div p a).1 := by
  unfold div; split <;> exact cn_div1 _ _
theorem cn_neg (a : Db) : Cn (neg a) := cn_D (neg_in (V_in a))
theorem cn_abs (a : Db) : Cn (abs a) := by
  unfold abs; split
  · exact cn_D (neg_in (V_in a))
  · exact cn_D (V_in a)
theorem cn_sqrt (a : Db) : Cn (sqrt a).1 := by
  unfold sqrt; split
  · exact cn_zero
  · exact cn_cl _
theorem cn_sine (v : Int) : Cn (sine v) := cn_cl _
theorem cn_shift (a : Db) (n : Int) : Cn (shift a n).1 := by
  unfold shift; split
  · have h := V_in a
    refine cn_D ?_
    have := half_bound (v := V a) (n := min (-n) 56) (b := 268435455) (by omega) h.1 h.2
    exact this
  · exact cn_clD _
theorem scalar_c (i : Ins) {p q a b : Db} (hp : V p = V q) (ha : V a = V b) : scalar i p a = scalar i q b := by
  unfold scalar
  rw [add_c hp ha, sub_c hp ha, mul_c hp ha, div_c hp ha, neg_c ha, abs_c ha, sqrt_c ha, sin_c ha, cos_c ha, shift_c ha]
theorem cn_scalar (i : Ins) (p a : Db) : Cn (scalar i p a).1 := by
  unfold scalar
  repeat' split
  · exact cn_add _ _
  · exact cn_sub _ _
  · exact cn_mul _ _
  · exact cn_div _ _
  · exact cn_neg _
  · exact cn_abs _
  · exact cn_sqrt _
  · exact cn_sine _
  · exact cn_sine _
  · exact cn_shift _ _
/-! ### vectors -/
theorem dotV_c (m a : Vc) : dotV m (map3 canon a) = dotV m a := by unfold dotV; rw [V_map1, V_map2, V_map3]
theorem dotV_c1 (p a : Vc) : dotV (map3 canon p) a = dotV p a := by unfold dotV; rw [V_map1, V_map2, V_map3]
theorem dot_c (m a : Vc) : dot m (map3 canon a) = dot m a := by unfold dot; rw [dotV_c]
theorem cn_dot (m a : Vc) : Cn (dot m a).1 := cn_clD _
theorem times_c (m : Mt) (a : Vc) : times m (map3 canon a) = times m a := by unfold times; rw [dot_c, dot_c, dot_c]
theorem cn_times (m : Mt) (a : Vc) : Cn3 (times m a).1 := ⟨cn_dot _ _, cn_dot _ _, cn_dot _ _⟩
theorem cnt_c (a : Vc) : cnt (map3 canon a) = cnt a := by unfold cnt; rw [V_map1, V_map2, V_map3]
theorem unit_c (a : Vc) : unit (map3 canon a) = unit a := by unfold unit; rw [V_map1, V_map2, V_map3, cnt_c]
theorem cn_unit (a : Vc) : Cn3 (unit a).1 := by
  unfold unit; split
  · exact cn3_zero
  · exact ⟨cn_cl _, cn_cl _, cn_cl _⟩
theorem cross_c (p a : Vc) : cross (map3 canon p) (map3 canon a) = cross p a := by unfold cross; rw [V_map1, V_map2, V_map3, V_map1, V_map2, V_map3]
theorem cn_cross (p a : Vc) : Cn3 (cross p a).1 := ⟨cn_clD _, cn_clD _, cn_clD _⟩
theorem each_c (f : Db → Db → Db × Bool) (h : ∀ p q a b : Db, V p = V q → V a = V b → f p a = f q b) (p a : Vc) : each f (map3 canon p) (map3 canon a) = each f p a := by
  unfold each
  rw [h _ _ _ _ (V_map1 p) (V_map1 a), h _ _ _ _ (V_map2 p) (V_map2 a), h _ _ _ _ (V_map3 p) (V_map3 a)]
theorem length_c (a : Vc) : length (map3 canon a) = length a := by unfold length; rw [dotV_c, dotV_c1]
theorem comp_c (a : Vc) (n : Int) : comp (map3 canon a) n = canon (comp a n) := by
  unfold comp
  by_cases h : n = 0
  · rw [if_pos h, if_pos h]; rfl
  · rw [if_neg h, if_neg h]
    by_cases h : n = 1
    · rw [if_pos h, if_pos h]; rfl
    · rw [if_neg h, if_neg h]; rfl
theorem fin_c {x y : Vc × Bool} (e : x = y) (c : Cn3 y.1) : x = (map3 canon y.1, y.2) := by rw [c.canon]; exact e
theorem one_c {x y : Db × Bool} (e : x.1 = canon y.1) (e2 : x.2 = y.2) : one x = (map3 canon (one y).1, (one y).2) := by
  unfold one map3
  simp only
  rw [e, e2, cn_zero.canon]
theorem product_c (i : Ins) (p a : Vc) : (product i (map3 canon p) (map3 canon a)).1 = canon (product i p a).1 ∧ (product i (map3 canon p) (map3 canon a)).2 = (product i p a).2 := by
  unfold product
  by_cases h : i.1 = 23
  · rw [if_pos h, if_pos h, show dot (map3 canon p) (map3 canon a) = dot p a by unfold dot; rw [dotV_c, dotV_c1]]
    exact ⟨(cn_dot p a).canon.symm, rfl⟩
  · rw [if_neg h, if_neg h]
    by_cases h : i.1 = 27
    · rw [if_pos h, if_pos h, length_c]
      exact ⟨(cn_clD _).canon.symm, rfl⟩
    · rw [if_neg h, if_neg h]
      exact ⟨comp_c a _, rfl⟩
theorem cn_readV (er : List Int) (i : Int) : Cn3 (readV er i) := ⟨cn_canon _, cn_canon _, cn_canon _⟩
theorem cn_each (f : Db → Db → Db × Bool) (h : ∀ p a : Db, Cn (f p a).1) (p a : Vc) : Cn3 (each f p a).1 := ⟨h _ _, h _ _, h _ _⟩
theorem compute_c (i : Ins) (p q a : Vc) (er : List Int) (h5 : ¬ (i.1 = 5 ∨ i.1 = 6)) :
    compute i (map3 canon p) (map3 canon q) (map3 canon a) er = (map3 canon (compute i p q a er).1, (compute i p q a er).2) := by
  unfold compute
  by_cases h : i.1 = 1 ∨ i.1 = 2
  · rw [if_pos h, if_pos h]; exact fin_c rfl (cn_readV _ _)
  rw [if_neg h, if_neg h, if_neg h5, if_neg h5]
  clear h
  by_cases h : i.1 = 8 ∨ i.1 = 9
  · rw [if_pos h, if_pos h]
  rw [if_neg h, if_neg h]
  clear h
  by_cases h : i.1 = 20
  · rw [if_pos h, if_pos h]
    exact fin_c (each_c _ (fun _ _ _ _ => add_c) p a) (cn_each _ cn_add _ _)
  rw [if_neg h, if_neg h]
  clear h
  by_cases h : i.1 = 21
  · rw [if_pos h, if_pos h]
    exact fin_c (each_c _ (fun _ _ _ _ => sub_c) p a) (cn_each _ cn_sub _ _)
  rw [if_neg h, if_neg h]
  clear h
  by_cases h : i.1 = 22
  · rw [if_pos h, if_pos h]
    refine fin_c ?_ (cn_each _ cn_sub _ _)
    unfold vneg
    rw [← cn3_zero.canon, each_c _ (fun _ _ _ _ => sub_c), cn3_zero.canon]
  rw [if_neg h, if_neg h]
  clear h
  by_cases h : i.1 = 24
  · rw [if_pos h, if_pos h]
    exact fin_c (cross_c p a) (cn_cross _ _)
  rw [if_neg h, if_neg h]
  clear h
  by_cases h : i.1 = 25
  · rw [if_pos h, if_pos h]
    refine fin_c ?_ ⟨cn_mul _ _, cn_mul _ _, cn_mul _ _⟩
    have e : scale (map3 canon p) (map3 canon a).1 = scale p a.1 := by
      unfold scale map3
      simp only
      rw [mul_c (V_canon p.1) (V_canon a.1), mul_c (V_canon p.2.1) (V_canon a.1), mul_c (V_canon p.2.2) (V_canon a.1)]
    rw [e]
  rw [if_neg h, if_neg h]
  clear h
  by_cases h : i.1 = 26
  · rw [if_pos h, if_pos h]
    exact fin_c (each_c _ (fun _ _ _ _ hp _ => shift_c hp _) a a) (cn_each _ (fun _ _ => cn_shift _ _) _ _)
  rw [if_neg h, if_neg h]
  clear h
  by_cases h : i.1 = 28
  · rw [if_pos h, if_pos h]
    exact fin_c (unit_c a) (cn_unit a)
  rw [if_neg h, if_neg h]
  clear h
  by_cases h : i.1 = 30
  · rw [if_pos h, if_pos h]; rfl
  rw [if_neg h, if_neg h]
  clear h
  by_cases h : i.1 = 31
  · rw [if_pos h, if_pos h]
    exact fin_c (times_c _ a) (cn_times _ _)
  rw [if_neg h, if_neg h]
  clear h
  by_cases h : i.1 = 32
  · rw [if_pos h, if_pos h]
    exact fin_c (times_c _ a) (cn_times _ _)
  rw [if_neg h, if_neg h]
  clear h
  by_cases h : i.1 = 23 ∨ i.1 = 27 ∨ i.1 = 29
  · rw [if_pos h, if_pos h]
    exact one_c (product_c i p a).1 (product_c i p a).2
  rw [if_neg h, if_neg h]
  clear h
  refine one_c ?_ ?_
  · rw [scalar_c i (V_map1 p) (V_map1 a)]; exact (cn_scalar _ _ _).canon.symm
  · rw [scalar_c i (V_map1 p) (V_map1 a)]
end Go.Nv
/-! ### The reference's step on plain data is the program's step on plain data. -/
namespace Go.Pv
open Go.Proofs
set_option maxRecDepth 1000000
/-! ### Literals are words -/
def Lit (x : Dr) : Prop := ∀ y, x = some y → wd3B y.1.2.2.2 = true
theorem wd3_zero : wd3B ((0, 0), (0, 0), (0, 0)) = true := by decide
theorem lit_some {a b c : Int} {v : Vc} {n e : Int} (h : wd3B v = true) : Lit (some ((a, b, c, v), n, e, ())) := fun y hy => by
  cases hy; exact h
theorem lit_er (e : Int) : Lit (er e) := lit_some wd3_zero
theorem lit_num (q : Nat) (low high : Int) (l : List Int) (i w : Int) : Lit (numD q low high l i w) := by
  unfold numD
  split
  · exact lit_some wd3_zero
  · exact lit_er _
theorem lit_decK {l : List Int} (hl : Words l) (q : Nat) (i w : Int) : Lit (decK q l i w) := by
  have hw : ∀ j k, wdB (wd l j, wd l k) = true := fun j k => by
    have h1 := wd_nonneg hl j; have h2 := wd_nonneg hl k
    rw [wdB_iff]; exact ⟨⟨⟨h1.1, h1.2⟩, h2.1⟩, h2.2⟩
  unfold decK
  split
  · exact lit_some wd3_zero
  · exact lit_num _ _ _ _ _ _
  · exact lit_num _ _ _ _ _ _
  · exact lit_num _ _ _ _ _ _
  · exact lit_num _ _ _ _ _ _
  · split
    · split
      · exact lit_some wd3_zero
      · exact lit_er _
    · exact lit_er _
  · split
    · exact lit_some (wd3B_iff.2 ⟨hw _ _, wdB_zero, wdB_zero⟩)
    · exact lit_er _
  · split
    · exact lit_some (wd3B_iff.2 ⟨hw _ _, hw _ _, hw _ _⟩)
    · exact lit_er _
theorem lit_decA {l : List Int} (hl : Words l) (i : Int) : Lit (decA l i) := by
  have key : ∀ (c1 c2 c3 : Prop) [Decidable c1] [Decidable c2] [Decidable c3] (z : Dr), Lit z → Lit (if c1 then er 3 else if c2 then er 2 else if c3 then er 9 else z) := fun c1 c2 c3 _ _ _ z hz => by
    split
    · exact lit_er _
    · split
      · exact lit_er _
      · split
        · exact lit_er _
        · exact hz
  exact key _ _ _ _ (lit_decK hl _ _ _)
theorem decP_lit {l : List Int} (h : inOKb l = true) (i : Int) : wd3B (decP l i).1.2.2.2 = true :=
  lit_decA (inOKb_ok h).1 i ((decP l i).1, (decP l i).2.1, (decP l i).2.2, ()) (decP_eq l i)
/-! ### Pops -/
theorem getD_take {α : Type} {l : List α} {n i : Nat} (h : i < n) (d : α) : (l.take n).getD i d = l.getD i d := by
  simp [List.getD, List.getElem?_take_of_lt h]
theorem popP_nil {l : List Db} {ms : List Int} {m : Int} (m0 : m ≠ 0) (h : ms.length = 0) : popP l ms m = (l, ms, Nv.zero3, 14) := by
  unfold popP; rw [if_neg m0, if_pos h]
theorem popP_bad {l : List Db} {ms : List Int} {m : Int} (m0 : m ≠ 0) (h : ms.length ≠ 0) (hd : ms.getD (ms.length - 1) 0 ≠ m) : popP l ms m = (l, ms, Nv.zero3, 6) := by
  unfold popP; rw [if_neg m0, if_neg h, if_pos hd]
theorem popP_val {l : List Db} {ms : List Int} {m : Int} (m0 : m ≠ 0) (h : ms.length ≠ 0) (hd : ms.getD (ms.length - 1) 0 = m) :
    popP l ms m = (l.take (l.length - (Nv.size m).toNat), ms.take (ms.length - 1), Nv.map3 Nv.canon (Nv.topV l l.length m), 0) := by
  unfold popP; rw [if_neg m0, if_neg h, if_neg (fun h => h hd)]
theorem top_nil {r : Nv.Regs} {m skip above : Int} (m0 : m ≠ 0) (h : (r.2.2.2.2.1.length : Int) - 1 - skip < 0) : Nv.top r m skip above = (Nv.zero3, 0, 14) := by
  unfold Nv.top; rw [if_neg m0, if_pos h]
theorem top_bad {r : Nv.Regs} {m skip above : Int} (m0 : m ≠ 0) (h : ¬ (r.2.2.2.2.1.length : Int) - 1 - skip < 0) (hd : r.2.2.2.2.1.getD ((r.2.2.2.2.1.length : Int) - 1 - skip).toNat 0 ≠ m) :
    Nv.top r m skip above = (Nv.zero3, 0, 6) := by
  unfold Nv.top; rw [if_neg m0, if_neg h, if_pos hd]
theorem top_val {r : Nv.Regs} {m skip above : Int} (m0 : m ≠ 0) (h : ¬ (r.2.2.2.2.1.length : Int) - 1 - skip < 0) (hd : r.2.2.2.2.1.getD ((r.2.2.2.2.1.length : Int) - 1 - skip).toNat 0 = m) :
    Nv.top r m skip above = (Nv.topV r.2.2.2.1 ((r.2.2.2.1.length : Int) - above) m, above + Nv.size m, 0) := by
  unfold Nv.top; rw [if_neg m0, if_neg h, if_neg (fun h => h hd)]
theorem pop_top (r : Nv.Regs) (m : Int) : (popP r.2.2.2.1 r.2.2.2.2.1 m).2.2.2 = (Nv.top r m 0 0).2.2 ∧ ((Nv.top r m 0 0).2.2 = 0 → popP r.2.2.2.1 r.2.2.2.2.1 m =
    (r.2.2.2.1.take ((r.2.2.2.1.length : Int) - (Nv.top r m 0 0).2.1).toNat, r.2.2.2.2.1.take ((r.2.2.2.2.1.length : Int) - Nv.pops m).toNat, Nv.map3 Nv.canon (Nv.top r m 0 0).1, 0)) := by
  have sp := size_pos m
  by_cases m0 : m = 0
  · subst m0
    refine ⟨by unfold popP; rw [if_pos rfl]; rfl, fun _ => ?_⟩
    unfold popP
    rw [if_pos rfl, show Nv.pops 0 = 0 from rfl, take_all _ 0 rfl]
    show _ = (r.2.2.2.1.take ((r.2.2.2.1.length : Int) - 0).toNat, r.2.2.2.2.1, Nv.map3 Nv.canon Nv.zero3, 0)
    rw [take_all _ 0 rfl, Nv.cn3_zero.canon]
  by_cases h0 : r.2.2.2.2.1.length = 0
  · rw [popP_nil m0 h0, top_nil m0 (by omega)]
    exact ⟨rfl, fun h => absurd h (by decide)⟩
  have e : ((r.2.2.2.2.1.length : Int) - 1 - 0).toNat = r.2.2.2.2.1.length - 1 := by omega
  by_cases hd : r.2.2.2.2.1.getD (r.2.2.2.2.1.length - 1) 0 = m
  · rw [popP_val m0 h0 hd, top_val m0 (by omega) (by rw [e]; exact hd)]
    refine ⟨rfl, fun _ => ?_⟩
    have e1 : ((r.2.2.2.1.length : Int) - (0 + Nv.size m)).toNat = r.2.2.2.1.length - (Nv.size m).toNat := by omega
    have e2 : ((r.2.2.2.2.1.length : Int) - Nv.pops m).toNat = r.2.2.2.2.1.length - 1 := by
      have : Nv.pops m = 1 := if_neg m0
      omega
    rw [e2]
    simp only
    rw [e1, Int.sub_zero]
  · rw [popP_bad m0 h0 hd, top_bad m0 (by omega) (by rw [e]; exact hd)]
    exact ⟨rfl, fun h => absurd h (by decide)⟩
theorem pop_top2 {r : Nv.Regs} (h1 : 1 ≤ r.2.2.2.2.1.length) (hn : r.2.2.2.2.1.length ≤ r.2.2.2.1.length) :
    (popP (r.2.2.2.1.take (r.2.2.2.1.length - 1)) (r.2.2.2.2.1.take (r.2.2.2.2.1.length - 1)) 1).2.2.2 = (Nv.top r 1 1 1).2.2 ∧
    ((Nv.top r 1 1 1).2.2 = 0 → popP (r.2.2.2.1.take (r.2.2.2.1.length - 1)) (r.2.2.2.2.1.take (r.2.2.2.2.1.length - 1)) 1 =
    (r.2.2.2.1.take ((r.2.2.2.1.length : Int) - (Nv.top r 1 1 1).2.1).toNat, r.2.2.2.2.1.take ((r.2.2.2.2.1.length : Int) - 2).toNat, Nv.map3 Nv.canon (Nv.top r 1 1 1).1, 0)) := by
  have el : (r.2.2.2.1.take (r.2.2.2.1.length - 1)).length = r.2.2.2.1.length - 1 := by simp only [List.length_take]; omega
  have em : (r.2.2.2.2.1.take (r.2.2.2.2.1.length - 1)).length = r.2.2.2.2.1.length - 1 := by simp only [List.length_take]; omega
  have m0 : (1 : Int) ≠ 0 := by decide
  by_cases h0 : r.2.2.2.2.1.length - 1 = 0
  · rw [popP_nil m0 (by rw [em]; exact h0), top_nil m0 (by omega)]
    exact ⟨rfl, fun h => absurd h (by decide)⟩
  have e : ((r.2.2.2.2.1.length : Int) - 1 - 1).toNat = r.2.2.2.2.1.length - 1 - 1 := by omega
  have eg : (r.2.2.2.2.1.take (r.2.2.2.2.1.length - 1)).getD ((r.2.2.2.2.1.take (r.2.2.2.2.1.length - 1)).length - 1) 0 = r.2.2.2.2.1.getD (r.2.2.2.2.1.length - 1 - 1) 0 := by rw [em, getD_take (by omega)]
  by_cases hd : r.2.2.2.2.1.getD (r.2.2.2.2.1.length - 1 - 1) 0 = 1
  · rw [popP_val m0 (by rw [em]; exact h0) (eg.trans hd), top_val m0 (by omega) (by rw [e]; exact hd)]
    refine ⟨rfl, fun _ => ?_⟩
    have sz : Nv.size 1 = 1 := rfl
    have e1 : ((r.2.2.2.1.length : Int) - (1 + 1)).toNat = r.2.2.2.1.length - 1 - (1 : Int).toNat := by omega
    have e2 : ((r.2.2.2.2.1.length : Int) - 2).toNat = r.2.2.2.2.1.length - 1 - 1 := by omega
    have e3 : ((r.2.2.2.1.length - 1 : Nat) : Int) = (r.2.2.2.1.length : Int) - 1 := by omega
    have ev : Nv.topV (r.2.2.2.1.take (r.2.2.2.1.length - 1)) ((r.2.2.2.1.length - 1 : Nat) : Int) 1 = Nv.topV r.2.2.2.1 ((r.2.2.2.1.length : Int) - 1) 1 := by
      have e4 : ((r.2.2.2.1.length : Int) - 1 - 1).toNat < r.2.2.2.1.length - 1 := by omega
      unfold Nv.topV
      rw [if_neg (by decide), if_neg (by decide), e3, getD_take e4]
    simp only [sz]
    rw [em, el, ev, e1, e2, List.take_take, List.take_take, Nat.min_eq_left (by omega), Nat.min_eq_left (by omega)]
  · rw [popP_bad m0 (by rw [em]; exact h0) (fun h => hd (eg.symm.trans h)), top_bad m0 (by omega) (by rw [e]; exact hd)]
    exact ⟨rfl, fun h => absurd h (by decide)⟩
/-! ### Moves -/
theorem cells_held (at_ m : Int) (a : Vc) : Nv.cells at_ m (Nv.held a m) = Nv.cells at_ m (Nv.map3 Nv.canon a) := by
  unfold Nv.cells Nv.held
  by_cases h : m = 2
  · rw [if_pos h, if_pos h, if_pos h]
  · rw [if_neg h, if_neg h, if_neg h]; rfl
theorem vals_held (m : Int) (a : Vc) : Nv.vals m (Nv.held a m) = Nv.vals m (Nv.map3 Nv.canon a) := by
  unfold Nv.vals Nv.held
  by_cases h : m = 2
  · rw [if_pos h, if_pos h, if_pos h]
  · rw [if_neg h, if_neg h, if_neg h]; rfl
theorem held_one (m : Int) (a : Vc) : (Nv.held a m).1 = (Nv.map3 Nv.canon a).1 := by
  unfold Nv.held
  split <;> rfl
theorem move_held (i : Ins) (h : Nv.Regs) (a : Vc) : Nv.move i h (Nv.held a h.2.1) = Nv.move i h (Nv.map3 Nv.canon a) := by
  unfold Nv.move
  rw [cells_held, vals_held, held_one]
/-! ### One instruction -/
theorem res_held (i : Ins) (p q a : Vc) (er : List Int) : resR i (Nv.map3 Nv.canon p) (Nv.map3 Nv.canon q) (Nv.map3 Nv.canon a) er = (Nv.map3 Nv.canon (Nv.compute i p q a er).1, (Nv.compute i p q a er).2) := by
  unfold resR
  by_cases h : i.1 = 5 ∨ i.1 = 6
  · rw [if_pos h]
    unfold Nv.compute
    rw [if_neg (by omega), if_pos h]
  · rw [if_neg h]; exact Nv.compute_c i p q a er h
theorem popP_zero (l : List Db) (ms : List Int) : popP l ms 0 = (l, ms, Nv.zero3, 0) := by
  unfold popP; rw [if_pos rfl]
theorem pops_both {i : Ins} (hi : Fits i) {r : Nv.Regs} (hv : Nv.valid r = true) (hp : (Nv.top r (Nv.form i.1).2.1 0 0).2.2 = 0) :
    let a := popP r.2.2.2.1 r.2.2.2.2.1 (Nv.form i.1).2.1
    let b := popP a.1 a.2.1 (Nv.form i.1).2.2.1
    let q := Nv.top r (Nv.form i.1).2.2.1 1 (Nv.top r (Nv.form i.1).2.1 0 0).2.1
    b.2.2.2 = q.2.2 ∧ (q.2.2 = 0 → b = (r.2.2.2.1.take ((r.2.2.2.1.length : Int) - q.2.1).toNat, r.2.2.2.2.1.take ((r.2.2.2.2.1.length : Int) - (Nv.pops (Nv.form i.1).2.1 + Nv.pops (Nv.form i.1).2.2.1)).toNat, Nv.map3 Nv.canon q.1, 0)) := by
  intro a b q
  have ha : a = _ := (pop_top r (Nv.form i.1).2.1).2 hp
  obtain ⟨_, f2⟩ := forms hi.1.1 hi.1.2
  obtain ⟨_, _, v3, _, _⟩ := valid_iff.1 hv
  have hn := need_len r.2.2.2.2.1
  rcases f2 with h | ⟨h1, h2⟩
  · have hb : b = (a.1, a.2.1, Nv.zero3, 0) := by
      show popP a.1 a.2.1 (Nv.form i.1).2.2.1 = _
      rw [h, popP_zero]
    have hq : q = (Nv.zero3, (Nv.top r (Nv.form i.1).2.1 0 0).2.1, 0) := by
      show Nv.top r (Nv.form i.1).2.2.1 1 _ = _
      rw [h]; rfl
    rw [hb, hq, ha]
    refine ⟨rfl, fun _ => ?_⟩
    rw [h, show Nv.pops 0 = 0 from rfl, Int.add_zero]
    simp only
    rw [Nv.cn3_zero.canon]
  · have t := top_ok hp
    rw [h1] at t ha
    have hM : 1 ≤ r.2.2.2.2.1.length := by
      rcases t with ⟨h, _⟩ | ⟨_, h, _⟩
      · omega
      · omega
    have ht : (Nv.top r 1 0 0).2.1 = 1 := by
      rcases t with ⟨h, _⟩ | ⟨_, _, _, h⟩
      · omega
      · rw [h]; rfl
    rw [ht] at ha
    have e1 : ((r.2.2.2.1.length : Int) - 1).toNat = r.2.2.2.1.length - 1 := by omega
    have e2 : ((r.2.2.2.2.1.length : Int) - Nv.pops 1).toNat = r.2.2.2.2.1.length - 1 := by
      have : Nv.pops 1 = 1 := rfl
      omega
    rw [e1, e2] at ha
    have hb : b = popP (r.2.2.2.1.take (r.2.2.2.1.length - 1)) (r.2.2.2.2.1.take (r.2.2.2.2.1.length - 1)) 1 := by
      show popP a.1 a.2.1 (Nv.form i.1).2.2.1 = _
      rw [h2, ha]
    have hq : q = Nv.top r 1 1 1 := by
      show Nv.top r (Nv.form i.1).2.2.1 1 (Nv.top r (Nv.form i.1).2.1 0 0).2.1 = _
      rw [h2, h1, ht]
    rw [hb, hq, h1, h2]
    exact pop_top2 hM (by omega)
theorem execR_eq {i : Ins} (hi : Fits i) {r : Nv.Regs} (hv : Nv.valid r = true) (next : Int) (er : List Int) :
    (if wrongP i r ≠ 0 then Nv.err (wrongP i r) else execR i next er r) = Nv.exec i next er r := by
  have t := tbl hi.1.1 hi.1.2
  by_cases hc : Nv.check i r = 0
  case neg =>
    have hw : wrongP i r = Nv.check i r := if_pos hc
    rw [hw, if_pos hc]
    unfold Nv.exec
    rw [if_pos hc]
  obtain ⟨p1, p2⟩ := pop_top r (Nv.form i.1).2.1
  by_cases hp : (Nv.top r (Nv.form i.1).2.1 0 0).2.2 = 0
  case neg =>
    have hw : wrongP i r = (Nv.top r (Nv.form i.1).2.1 0 0).2.2 := by
      unfold wrongP
      rw [if_neg (fun h => h hc)]
      simp only
      rw [p1, if_pos hp]
    rw [hw, if_pos hp]
    unfold Nv.exec
    rw [if_neg (fun h => h hc)]
    simp only
    rw [if_pos hp]
  obtain ⟨q1, q2⟩ := pops_both hi hv hp
  by_cases hq : (Nv.top r (Nv.form i.1).2.2.1 1 (Nv.top r (Nv.form i.1).2.1 0 0).2.1).2.2 = 0
  case neg =>
    have hw : wrongP i r = (Nv.top r (Nv.form i.1).2.2.1 1 (Nv.top r (Nv.form i.1).2.1 0 0).2.1).2.2 := by
      unfold wrongP
      rw [if_neg (fun h => h hc)]
      simp only
      rw [p1, if_neg (fun h => h hp), q1, if_pos hq]
    rw [hw, if_pos hq]
    unfold Nv.exec
    rw [if_neg (fun h => h hc)]
    simp only
    rw [if_neg (fun h => h hp), if_pos hq]
  have hw : wrongP i r = if (Nv.form i.1).2.2.2.2 = true ∧ (r.2.2.2.1.length : Int) + Nv.size r.2.1 > 18 then 13 else
      if (i.1 = 33 ∨ i.1 = 34 ∨ i.1 = 35) ∧ (r.2.2.2.2.2.2.length : Int) ≥ 8 then 13 else 0 := by
    unfold wrongP
    rw [if_neg (fun h => h hc)]
    simp only
    rw [p1, if_neg (fun h => h hp), q1, if_neg (fun h => h hq)]
  have he : Nv.exec i next er r = if (Nv.form i.1).2.2.2.1 ≠ 0 then
      (Nv.result i (Nv.popped r next (Nv.top r (Nv.form i.1).2.2.1 1 (Nv.top r (Nv.form i.1).2.1 0 0).2.1).2.1 (Nv.pops (Nv.form i.1).2.1 + Nv.pops (Nv.form i.1).2.2.1))
        (Nv.compute i (Nv.top r (Nv.form i.1).2.1 0 0).1 (Nv.top r (Nv.form i.1).2.2.1 1 (Nv.top r (Nv.form i.1).2.1 0 0).2.1).1 r.2.2.1 er), [], 0, 0, 0, ())
      else Nv.move i (Nv.popped r next (Nv.top r (Nv.form i.1).2.2.1 1 (Nv.top r (Nv.form i.1).2.1 0 0).2.1).2.1 (Nv.pops (Nv.form i.1).2.1 + Nv.pops (Nv.form i.1).2.2.1)) (Nv.held r.2.2.1 r.2.1) := by
    unfold Nv.exec
    rw [if_neg (fun h => h hc)]
    simp only
    rw [if_neg (fun h => h hp), if_neg (fun h => h hq)]
  cases hm : moves i.1 with
  | false =>
    have ho : (Nv.form i.1).2.2.2.1 ≠ 0 := fun h => by rw [t.out.1 h] at hm; cases hm
    have hn : ¬ (i.1 = 3 ∨ i.1 = 4 ∨ i.1 = 7 ∨ (33 ≤ i.1 ∧ i.1 ≤ 38)) := fun h => by rw [moves_iff.2 h] at hm; cases hm
    have hw0 : wrongP i r = 0 := by
      rw [hw, if_neg (fun h => hn (.inr (.inr (.inl (t.push.1 h.1))))), if_neg (by omega)]
    rw [hw0, if_neg (fun h => h rfl), he, if_pos ho]
    unfold execR
    rw [p2 hp]
    simp only
    rw [p2 hp] at q2
    rw [q2 hq, res_held, if_pos ho]
    unfold Nv.result Nv.popped Nv.held
    have o0 := t.out0; have o2 := t.out2
    by_cases h1 : (Nv.form i.1).2.2.2.1 = 1
    · rw [if_pos h1, if_neg (by omega)]; rfl
    · rw [if_neg h1, if_pos (by omega)]
  | true =>
    have ho : (Nv.form i.1).2.2.2.1 = 0 := t.out.2 hm
    obtain ⟨z1, z2⟩ := t.pops hm
    have hno : ¬ ((Nv.form i.1).2.2.2.1 ≠ 0) := fun h => h ho
    have ex : execR i next er r = Nv.move i (next, r.2.1, r.2.2.1, r.2.2.2.1, r.2.2.2.2.1, r.2.2.2.2.2.1, r.2.2.2.2.2.2) (Nv.map3 Nv.canon r.2.2.1) := by
      unfold execR
      rw [z1, z2, popP_zero]
      simp only
      rw [popP_zero, if_neg hno]
    rw [he, if_neg hno, z1, z2, top_zero, top_zero, show Nv.pops 0 + Nv.pops 0 = 0 from rfl, popped_none]
    have mh := move_held i (next, r.2.1, r.2.2.1, r.2.2.2.1, r.2.2.2.2.1, r.2.2.2.2.2.1, r.2.2.2.2.2.2) r.2.2.1
    rw [show Nv.held r.2.2.1 r.2.1 = Nv.held r.2.2.1 ((next, r.2.1, r.2.2.1, r.2.2.2.1, r.2.2.2.2.1, r.2.2.2.2.2.1, r.2.2.2.2.2.2) : Nv.Regs).2.1 from rfl, mh, ← ex]
    by_cases h7 : i.1 = 7
    · by_cases hf : (r.2.2.2.1.length : Int) + Nv.size r.2.1 > 18
      · have hw3 : wrongP i r = 13 := by rw [hw, if_pos ⟨t.push.2 h7, hf⟩]
        rw [hw3, if_pos (by decide), ex]
        unfold Nv.move
        rw [if_neg (by omega), if_pos h7, if_pos hf]
      · have hw3 : wrongP i r = 0 := by rw [hw, if_neg (fun h => hf h.2), if_neg (by omega)]
        rw [hw3, if_neg (by decide)]
    · have hpn : ¬ ((Nv.form i.1).2.2.2.2 = true ∧ (r.2.2.2.1.length : Int) + Nv.size r.2.1 > 18) := fun h => h7 (t.push.1 h.1)
      by_cases h33 : (i.1 = 33 ∨ i.1 = 34 ∨ i.1 = 35) ∧ (r.2.2.2.2.2.2.length : Int) ≥ 8
      · have hw3 : wrongP i r = 13 := by rw [hw, if_neg hpn, if_pos h33]
        rw [hw3, if_pos (by decide), ex]
        unfold Nv.move
        rw [if_neg (by omega), if_neg h7, if_pos h33.1, if_pos h33.2]
      · have hw3 : wrongP i r = 0 := by rw [hw, if_neg hpn, if_neg h33]
        rw [hw3, if_neg (by decide)]
theorem stepR_eq (code er : List Int) (r : Nv.Regs) : stepR code er r = stepP code er r := by
  unfold stepR stepP
  cases hv : Nv.valid r with
  | false => rfl
  | true =>
    rw [if_pos rfl, if_pos rfl]
    by_cases hd : (decP code r.1).2.2 = 0
    · have hn : ¬ ((decP code r.1).2.2 ≠ 0) := fun h => h hd
      rw [if_neg hn, if_neg hn]
      exact execR_eq (dec_fits hd).1 hv _ er
    · rw [if_pos hd, if_pos hd]
end Go.Pv
/-! ### The reference's Step computes what the plain text says. -/
namespace Go.Pv
open Go.Proofs
set_option maxRecDepth 1000000
theorem pushQ_eq {m : Int} {a : Vc} {L : List Db} (h : L.length ≤ 900) (k : List Db → Option Nv.Res) : pushQ m a L k = k (L ++ Nv.vals m a) := by
  unfold pushQ Nv.vals
  simp only [bif_eq]
  by_cases h2 : m = 2
  · simp only [if_pos h2]
    rw [app_ok (by simp; omega), app_ok (by simp; omega), app_ok (by simp; omega)]
    simp
  · simp only [if_neg h2]
    rw [app_ok (by simp; omega)]
/-- how the code ends a move -/
theorem csQ_eq {f : Nv.Form} {i : Ins} (hi : Fits i) (next : Int) (r : Nv.Regs) (acc : Vc) (L : List Db) (M : List Int) (U : List Nv.Out) (hm : i.1 = 3 ∨ i.1 = 4 → f.1 = r.2.1) (h7 : i.1 ≠ 7)
    (hU : (i.1 = 33 ∨ i.1 = 34 ∨ i.1 = 35) → (U.length : Int) < 8) :
    csQ (gSt (Nv.form i.1)) f i next r (Nv.map3 Nv.canon acc) L M U = some (Nv.move i (next, r.2.1, r.2.2.1, L, M, r.2.2.2.2.2.1, U) (Nv.map3 Nv.canon acc)) := by
  have hc := fits_chk hi
  simp only [dChk, Bool.and_eq_true, decide_eq_true_eq] at hc
  have hcell : (i.1 = 3 ∨ i.1 = 4) → cellQ f i (Nv.map3 Nv.canon acc) = Nv.cells i.2.1 r.2.1 (Nv.map3 Nv.canon acc) := fun h => by
    unfold cellQ Nv.cells
    rw [bif_eq, hm h, cl2_eq hc (by omega), cl2_eq hc (by omega), cl2_eq hc (by omega), Int.add_zero]
  unfold csQ swQ Nv.move retQ
  simp only [bif_eq]
  by_cases h3 : i.1 = 3
  · have n33 : ¬ i.1 = 33 := by omega
    have n34 : ¬ i.1 = 34 := by omega
    have n35 : ¬ i.1 = 35 := by omega
    have n36 : ¬ i.1 = 36 := by omega
    have n37 : ¬ i.1 = 37 := by omega
    have n38 : ¬ i.1 = 38 := by omega
    have o : i.1 = 3 ∨ i.1 = 4 := .inl h3
    rw [if_pos h3, if_pos o, if_neg n33, if_neg n34, if_neg n35, if_neg n36, if_neg n37, if_neg n38, hcell o]
  rw [if_neg h3]
  by_cases h4 : i.1 = 4
  · have n33 : ¬ i.1 = 33 := by omega
    have n34 : ¬ i.1 = 34 := by omega
    have n35 : ¬ i.1 = 35 := by omega
    have n36 : ¬ i.1 = 36 := by omega
    have n37 : ¬ i.1 = 37 := by omega
    have n38 : ¬ i.1 = 38 := by omega
    have o : i.1 = 3 ∨ i.1 = 4 := .inr h4
    rw [if_pos h4, if_pos o, if_neg n33, if_neg n34, if_neg n35, if_neg n36, if_neg n37, if_neg n38, hcell o]
  rw [if_neg h4, if_neg (not_or.2 ⟨h3, h4⟩), if_neg h7]
  by_cases h33 : i.1 = 33
  · have := hU (.inl h33)
    rw [if_pos h33, if_pos (.inl h33), app_ok (by simp; omega), if_neg (by omega)]
  rw [if_neg h33]
  by_cases h34 : i.1 = 34
  · have := hU (.inr (.inl h34))
    rw [if_pos h34, if_pos (.inr (.inl h34)), app_ok (by simp; omega), if_neg (by omega)]
  rw [if_neg h34]
  by_cases h35 : i.1 = 35
  · have := hU (.inr (.inr h35))
    rw [if_pos h35, if_pos (.inr (.inr h35)), app_ok (by simp; omega), if_neg (by omega)]
  rw [if_neg h35, if_neg (not_or.2 ⟨h33, not_or.2 ⟨h34, h35⟩⟩)]
  by_cases h36 : i.1 = 36
  · rw [if_pos h36, if_neg (by omega), if_pos h36]
  rw [if_neg h36]
  by_cases h37 : i.1 = 37
  · rw [if_pos h37, if_pos h37, onlyT (show (gSt (Nv.form i.1)).dD (Nv.map3 Nv.canon acc).1 = true from wdB_canon _)]
    show (bif decide (Nv.V (Nv.map3 Nv.canon acc).1 < 0) then _ else _) = _
    by_cases hv : Nv.V (Nv.map3 Nv.canon acc).1 < 0
    · rw [decide_eq_true hv, if_pos hv]; rfl
    · rw [decide_eq_false hv, if_neg hv]; rfl
  rw [if_neg h37, if_neg h37, if_neg h36]
  by_cases h38 : i.1 = 38
  · rw [if_pos h38, if_pos h38]
  rw [if_neg h38, if_neg h38]
theorem mvT_eq {i : Ins} (hi : Fits i) (next : Int) (r : Nv.Regs) (hv : Nv.valid r = true) (ho : (Nv.form i.1).2.2.2.1 = 0) (hw : wrongP i r = 0) :
    mvT (gSt (Nv.form i.1)) (Nv.form i.1) i next r (Nv.map3 Nv.canon r.2.2.1) r.2.2.2.1 r.2.2.2.2.1 r.2.2.2.2.2.2 = some (Nv.move i (next, r.2.1, r.2.2.1, r.2.2.2.1, r.2.2.2.2.1, r.2.2.2.2.2.1, r.2.2.2.2.2.2) (Nv.map3 Nv.canon r.2.2.1)) := by
  have t := tbl hi.1.1 hi.1.2
  have hm := t.out.1 ho
  obtain ⟨z1, z2⟩ := t.pops hm
  obtain ⟨_, _, v3, v4, v5⟩ := valid_iff.1 hv
  have hn := need_len r.2.2.2.2.1
  have hc : Nv.check i r = 0 := by
    unfold wrongP at hw
    by_cases h : Nv.check i r = 0
    · exact h
    · rw [if_pos h] at hw; exact hw
  have hw' := hw
  unfold wrongP at hw'
  rw [if_neg (fun h => h hc)] at hw'
  simp only at hw'
  rw [z1, z2, popP_zero] at hw'
  simp only at hw'
  rw [popP_zero, if_neg (fun h => h rfl), if_neg (fun h => h rfl)] at hw'
  obtain ⟨_, c2, _⟩ := check_mode hc
  have hroom : i.1 = 7 → ¬ ((r.2.2.2.1.length : Int) + Nv.size r.2.1 > 18) := fun h hh => by
    rw [if_pos ⟨t.push.2 h, hh⟩] at hw'
    omega
  have hU : (i.1 = 33 ∨ i.1 = 34 ∨ i.1 = 35) → (r.2.2.2.2.2.2.length : Int) < 8 := fun h => by
    apply Decidable.byContradiction
    intro hh
    rw [if_neg (fun h2 => by have := t.push.1 h2.1; omega), if_pos ⟨h, by omega⟩] at hw'
    omega
  unfold mvT
  by_cases h7 : i.1 = 7
  · rw [t.push.2 h7, cond_true, pushQ_eq (by omega), app_ok (by simp; omega)]
    unfold csQ swQ Nv.move retQ
    simp only [bif_eq]
    rw [if_neg (by omega), if_neg (by omega), if_neg (by omega), if_neg (by omega), if_neg (by omega), if_neg (by omega), if_neg (by omega), if_neg (by omega), if_neg (by omega), if_pos h7, if_neg (hroom h7)]
  · have hp : (Nv.form i.1).2.2.2.2 = false := by
      cases h : (Nv.form i.1).2.2.2.2 with
      | false => rfl
      | true => exact absurd (t.push.1 h) h7
    rw [hp, cond_false]
    refine csQ_eq hi next r r.2.2.1 _ _ _ (fun h => ?_) h7 hU
    rcases h with h | h
    · have e := t.in3 h
      rw [c2 (by rw [e]; decide)]
    · have e := t.in4 h
      rw [c2 (by rw [e]; decide)]
theorem wd3_popP {l : List Db} {ms : List Int} (m : Int) : wd3B (popP l ms m).2.2.1 = true := by
  unfold popP
  split
  · exact wd3_zero
  · split
    · exact wd3_zero
    · split
      · exact wd3_zero
      · exact wd3B_iff.2 ⟨wdB_canon _, wdB_canon _, wdB_canon _⟩
theorem outT_eq {i : Ins} (hi : Fits i) (hl : wd3B i.2.2.2 = true) (next : Int) {er : List Int} (he : inOKb er = true) (r : Nv.Regs) (p q : Vc) (hp : wd3B p = true) (L : List Db) (M : List Int)
    (ho : (Nv.form i.1).2.2.2.1 ≠ 0) : outT (gSt (Nv.form i.1)) (Nv.form i.1) i next er r (Nv.map3 Nv.canon r.2.2.1) p q L M r.2.2.2.2.2.2 =
    some ((next, (Nv.form i.1).2.2.2.1, (if (Nv.form i.1).2.2.2.1 = 1 then ((resR i p q (Nv.map3 Nv.canon r.2.2.1) er).1.1, (0, 0), (0, 0)) else (resR i p q (Nv.map3 Nv.canon r.2.2.1) er).1), L, M,
      r.2.2.2.2.2.1 || (resR i p q (Nv.map3 Nv.canon r.2.2.1) er).2, r.2.2.2.2.2.2), [], 0, 0, 0, ()) := by
  have t := tbl hi.1.1 hi.1.2
  have hm : moves i.1 = false := by
    cases h : moves i.1 with
    | false => rfl
    | true => exact absurd (t.out.2 h) ho
  have hd : (gSt (Nv.form i.1)).dRes i p (Nv.map3 Nv.canon r.2.2.1) er = true := by
    show dRes i p _ er = true
    simp only [dRes, Bool.and_eq_true, Bool.not_eq_true']
    exact ⟨⟨⟨kn_iff.2 hi.1, hm⟩, hp, wd3B_iff.2 ⟨wdB_canon _, wdB_canon _, wdB_canon _⟩, hl⟩, he, fits_comp hi⟩
  unfold outT resQ
  rw [onlyT hd]
  simp only [bif_eq]
  cases r.2.2.2.2.2.1 <;> rfl
/-- what a body is to give -/
def Body (b : Nv.Form → Ins → Int → List Int → Nv.Regs → Option Nv.Res) (f : Nv.Form) : Prop :=
  ∀ (i : Ins) (next : Int) (er : List Int) (r : Nv.Regs), Fits i → Nv.form i.1 = f → Nv.valid r = true → wdR r = true → wd3B i.2.2.2 = true → inOKb er = true → wrongP i r = 0 → b f i next er r = some (execR i next er r)
theorem bodyT_eq (f : Nv.Form) : Body (fun f => bodyT (gSt f) f) f := by
  intro i next er r hi hf hv hw hl he hwr
  subst hf
  have t := tbl hi.1.1 hi.1.2
  have ft := fit2_of hv hw
  have ft2 := popP_fit ft (Nv.form i.1).2.1
  obtain ⟨_, _, v3, v4, v5⟩ := valid_iff.1 hv
  have hn := need_len r.2.2.2.2.1
  have a1 := (Bool.and_eq_true_iff.1 hw).1
  show bodyT (gSt (Nv.form i.1)) (Nv.form i.1) i next er r = _
  unfold bodyT
  rw [onlyT (show (gSt (Nv.form i.1)).dForm i.1 = true from Bool.and_eq_true_iff.2 ⟨kn_iff.2 hi.1, decide_eq_true rfl⟩), app_ok (by omega), app_ok (by omega), app_ok (by omega), onlyT (show (gSt (Nv.form i.1)).dV3 r.2.2.1 = true from a1)]
  show popK wd3B (Nv.map3 Nv.canon) _ _ _ _ = _
  rw [popK_eq (by have := ft.1; omega) (by have := ft.2.1; omega) ft.2.2.1 ft.2.2.2]
  show popK wd3B (Nv.map3 Nv.canon) _ _ _ _ = _
  rw [popK_eq (by have := ft2.1; omega) (by have := ft2.2.1; omega) ft2.2.2.1 ft2.2.2.2]
  by_cases ho : (Nv.form i.1).2.2.2.1 = 0
  · rw [show ((Nv.form i.1).2.2.2.1 != 0) = false by simp [ho], cond_false]
    obtain ⟨z1, z2⟩ := t.pops (t.out.1 ho)
    unfold execR
    rw [z1, z2, popP_zero]
    simp only
    rw [popP_zero, if_neg (fun h => h ho)]
    exact mvT_eq hi next r hv ho hwr
  · rw [show ((Nv.form i.1).2.2.2.1 != 0) = true by simp [ho], cond_true]
    unfold execR
    simp only
    rw [if_pos ho]
    exact outT_eq hi hl next he r _ _ (wd3_popP _) _ _ ho
/-! ### Operation 30 -/
def Cut {α : Type} (l : List α) (o : Option Nat) : Prop := lenO l o ≤ l.length
theorem cutO_eq {α : Type} (l : List α) (o : Option Nat) : cutO l o = l.take (lenO l o) := by
  cases o with
  | none => exact (List.take_of_length_le (Nat.le_refl _)).symm
  | some h => exact List.drop_zero
theorem cutO_len {α : Type} {l : List α} {o : Option Nat} (h : Cut l o) : (cutO l o).length = lenO l o := by
  rw [cutO_eq, List.length_take]
  exact Nat.min_eq_left h
theorem popO_eq {l : List Db} {ol : Option Nat} {ms : List Int} {om : Option Nat} (hl : Cut l ol) (hms : Cut ms om) (hf : Fit2 (cutO l ol) (cutO ms om)) :
    ∃ ol' om', Cut l ol' ∧ Cut ms om' ∧ (∀ (α : Type) (k : Option Nat → Option Nat → Vc → Option α), popO wd3B (Nv.map3 Nv.canon) l ol ms om k = k ol' om' (popP (cutO l ol) (cutO ms om) 1).2.2.1) ∧
      cutO l ol' = (popP (cutO l ol) (cutO ms om) 1).1 ∧ cutO ms om' = (popP (cutO l ol) (cutO ms om) 1).2.1 := by
  obtain ⟨f1, f2, f3, f4⟩ := hf
  have el := cutO_len hl
  have em := cutO_len hms
  have cl : lenO l ol ≤ l.length := hl
  have cm : lenO ms om ≤ ms.length := hms
  unfold popP
  rw [if_neg (by omega), em]
  by_cases h0 : lenO ms om = 0
  · rw [if_pos h0]
    refine ⟨ol, om, hl, hms, fun α k => ?_, rfl, rfl⟩
    unfold popO
    rw [show ((lenO ms om : Int) == 0) = true by simp [h0], cond_true]
  rw [if_neg h0]
  have e1 : w64 ((lenO ms om : Int) - 1) = ((lenO ms om - 1 : Nat) : Int) := by rw [w64_small (by omega) (by omega)]; omega
  have hg : (cutO ms om).getD (lenO ms om - 1) 0 = ms.getD (lenO ms om - 1) 0 := by rw [cutO_eq, getD_take (by omega)]
  by_cases hd : (cutO ms om).getD (lenO ms om - 1) 0 = 1
  · rw [if_neg (fun h => h hd)]
    have hs := need_last (l := cutO ms om) (by omega)
    rw [em, hd, f4, el] at hs
    have sz : Nv.size 1 = 1 := rfl
    rw [sz] at hs
    refine ⟨some (lenO l ol - 1), some (lenO ms om - 1), ?_, ?_, fun α k => ?_, ?_, ?_⟩
    · show lenO l ol - 1 ≤ l.length
      omega
    · show lenO ms om - 1 ≤ ms.length
      omega
    · unfold popO
      rw [beq_eq_false_iff_ne.2 (show (lenO ms om : Int) ≠ 0 by omega), cond_false, e1, show inRange ((lenO ms om - 1 : Nat) : Int) (lenO ms om) = true by simp [inRange]; omega, cond_true, Int.toNat_natCast,
        ← hg, hd, show ((1 : Int) != 1) = false from rfl, cond_false]
      have e2 : w64 ((lenO l ol : Int) - 1) = ((lenO l ol - 1 : Nat) : Int) := by rw [w64_small (by omega) (by omega)]; omega
      have e3 : w64 (((lenO l ol - 1 : Nat) : Int) + 0) = ((lenO l ol - 1 : Nat) : Int) := by rw [w64_small (by omega) (by omega)]; omega
      rw [e2, e3]
      unfold rdO hiO
      rw [show inRange ((lenO l ol - 1 : Nat) : Int) (lenO l ol) = true by simp [inRange]; omega, cond_true, Int.toNat_natCast, Int.toNat_natCast,
        decide_eq_true (show (0 : Int) ≤ ((lenO l ol - 1 : Nat) : Int) by omega), decide_eq_true (show ((lenO l ol - 1 : Nat) : Int) ≤ (lenO l ol : Int) by omega),
        decide_eq_true (show (0 : Int) ≤ ((lenO ms om - 1 : Nat) : Int) by omega), decide_eq_true (show ((lenO ms om - 1 : Nat) : Int) ≤ (lenO ms om : Int) by omega)]
      simp only [Bool.true_and, cond_true]
      have hx : l.getD (lenO l ol - 1) (0, 0) = (cutO l ol).getD (lenO l ol - 1) (0, 0) := by rw [cutO_eq, getD_take (by omega)]
      rw [hx, onlyT (wd3B_iff.2 ⟨all_getD f3 _, wdB_zero, wdB_zero⟩)]
      unfold Nv.topV
      rw [if_neg (by omega), el]
      have e4 : ((lenO l ol : Int) - 1).toNat = lenO l ol - 1 := by omega
      rw [e4]
    · rw [cutO_eq, cutO_eq, List.take_take]
      simp only [List.length_take]
      show l.take (lenO l ol - 1) = _
      have : Nat.min (Nat.min (lenO l ol) l.length - (Nv.size 1).toNat) (lenO l ol) = lenO l ol - 1 := by
        have e5 : Nat.min (lenO l ol) l.length = lenO l ol := Nat.min_eq_left cl
        have e6 : (Nv.size 1).toNat = 1 := rfl
        rw [e5, e6]
        exact Nat.min_eq_left (by omega)
      exact congrArg (fun n => l.take n) this.symm
    · show cutO ms (some (lenO ms om - 1)) = (cutO ms om).take (lenO ms om - 1)
      rw [cutO_eq ms om, cutO_eq ms (some _), List.take_take]
      show ms.take (lenO ms om - 1) = ms.take (Nat.min (lenO ms om - 1) (lenO ms om))
      rw [show Nat.min (lenO ms om - 1) (lenO ms om) = lenO ms om - 1 from Nat.min_eq_left (by omega)]
  · rw [if_pos hd]
    refine ⟨ol, om, hl, hms, fun α k => ?_, rfl, rfl⟩
    unfold popO
    rw [beq_eq_false_iff_ne.2 (show (lenO ms om : Int) ≠ 0 by omega), cond_false, e1, show inRange ((lenO ms om - 1 : Nat) : Int) (lenO ms om) = true by simp [inRange]; omega, cond_true, Int.toNat_natCast, ← hg,
      show ((cutO ms om).getD (lenO ms om - 1) 0 != 1) = true by simp only [bne_iff_ne]; exact hd, cond_true]
theorem bodyO_eq : Body (fun f => bodyO (gSt f) f) (1, 1, 1, 2, false) := by
  intro i next er r hi hf hv hw hl he hwr
  have ft := fit2_of hv hw
  have ft2 := popP_fit ft 1
  obtain ⟨_, _, v3, v4, v5⟩ := valid_iff.1 hv
  have hn := need_len r.2.2.2.2.1
  have a1 := (Bool.and_eq_true_iff.1 hw).1
  show bodyO (gSt (1, 1, 1, 2, false)) (1, 1, 1, 2, false) i next er r = _
  rw [← hf]
  unfold bodyO
  rw [onlyT (show (gSt (Nv.form i.1)).dForm i.1 = true from Bool.and_eq_true_iff.2 ⟨kn_iff.2 hi.1, decide_eq_true rfl⟩), app_ok (by omega), app_ok (by omega), app_ok (by omega), onlyT (show (gSt (Nv.form i.1)).dV3 r.2.2.1 = true from a1)]
  show popO wd3B (Nv.map3 Nv.canon) _ _ _ _ _ = _
  obtain ⟨ol, om, c1, c2, c3, c4, c5⟩ := popO_eq (l := r.2.2.2.1) (ol := none) (ms := r.2.2.2.2.1) (om := none) (Nat.le_refl _) (Nat.le_refl _) ft
  rw [c3]
  show popO wd3B (Nv.map3 Nv.canon) _ _ _ _ _ = _
  obtain ⟨ol', om', d1, d2, d3, d4, d5⟩ := popO_eq (l := r.2.2.2.1) (ol := ol) (ms := r.2.2.2.2.1) (om := om) c1 c2 (by rw [c4, c5]; exact ft2)
  rw [d3, d4, d5, c4, c5]
  have ho : (Nv.form i.1).2.2.2.1 ≠ 0 := by rw [hf]; decide
  have e1 : (Nv.form i.1).2.1 = 1 := by rw [hf]
  have e2 : (Nv.form i.1).2.2.1 = 1 := by rw [hf]
  refine (outT_eq hi hl next he r _ _ (wd3_popP _) _ _ ho).trans ?_
  unfold execR
  rw [e1, e2]
  simp only
  rw [if_pos ho]
  rfl
/-! ### The step -/
theorem stepG_eq {b : Nv.Form → Ins → Int → List Int → Nv.Regs → Option Nv.Res} {f : Nv.Form} (hb : Body b f) {code er : List Int} {r : Nv.Regs} (hc : inOKb code = true) (he : inOKb er = true) (hw : wdR r = true)
    (hf : (decP code r.1).2.2 = 0 → Nv.form (decP code r.1).1.1 = f) :
    (bif !(Nv.valid r) then errS 2 else onlyN (inOKb code) (
      bif (decP code r.1).2.2 == 0 then onlyN (dWrong (decP code r.1).1 r) (bif wrongP (decP code r.1).1 r != 0 then errS (wrongP (decP code r.1).1 r) else b f (decP code r.1).1 (decP code r.1).2.1 er r)
      else bif (decP code r.1).2.2 != 0 then errS (decP code r.1).2.2 else b f (decP code r.1).1 (decP code r.1).2.1 er r)) = some (stepR code er r) := by
  unfold stepR
  cases hv : Nv.valid r with
  | false => rfl
  | true =>
    rw [if_pos rfl, onlyT hc]
    simp only [Bool.not_true, cond_false]
    by_cases hd : (decP code r.1).2.2 = 0
    · have hi := (dec_fits hd).1
      rw [if_neg (fun h => h hd), show ((decP code r.1).2.2 == 0) = true by simp [hd], cond_true, onlyT (show dWrong (decP code r.1).1 r = true by simp only [dWrong, Bool.and_eq_true, decide_eq_true_eq]; exact ⟨hi, hv, hw⟩)]
      by_cases hz : wrongP (decP code r.1).1 r = 0
      · rw [if_neg (fun h => h hz), show (wrongP (decP code r.1).1 r != 0) = false by simp [hz], cond_false]
        exact hb _ _ er r hi (hf hd) hv hw (decP_lit hc _) he hz
      · rw [if_pos hz, bne_iff_ne.2 hz]; rfl
    · rw [if_pos hd, beq_eq_false_iff_ne.2 hd, cond_false, bne_iff_ne.2 hd]; rfl
theorem formP {code : List Int} {i : Int} (h : (decP code i).2.2 = 0) : Nv.form (decP code i).1.1 ∈ allForms := by
  have hi := (dec_fits h).1
  exact of_decide_eq_true (each38_at forms16 hi.1.1 hi.1.2)
def dStep (code er : List Int) (r : Nv.Regs) : Bool := inOKb code && (inOKb er && wdR r)
theorem e8_some {code er : List Int} {r : Nv.Regs} (h : dStep code er r = true) : ∃ f, e8 (gSt f) f code er r = some (stepP code er r) := by
  simp only [dStep, Bool.and_eq_true] at h
  obtain ⟨hc, he, hw⟩ := h
  by_cases hd : (decP code r.1).2.2 = 0
  · by_cases h30 : Nv.form (decP code r.1).1.1 = (1, 1, 1, 2, false)
    · refine ⟨(1, 1, 1, 2, false), (s8_11120 _ code er r).trans ?_⟩
      exact (stepG_eq bodyO_eq hc he hw fun _ => h30).trans (congrArg some (stepR_eq code er r))
    · refine ⟨_, (e8_all (formP hd) h30 _ code er r).trans ?_⟩
      exact (stepG_eq (bodyT_eq _) hc he hw fun _ => rfl).trans (congrArg some (stepR_eq code er r))
  · refine ⟨(0, 0, 0, 0, false), (s8_00000 _ code er r).trans ?_⟩
    exact (stepG_eq (bodyT_eq _) hc he hw fun h => absurd h hd).trans (congrArg some (stepR_eq code er r))
theorem fn8 : FnT Tryz.prog 8 sStep rStep fun x => bif dStep x.1 x.2.1 x.2.2.1 then some (stepP x.1 x.2.1 x.2.2.1) else none := fun x y h => by
  obtain ⟨code, er, r, ⟨⟩⟩ := x
  change (bif dStep code er r then some (stepP code er r) else none) = some y at h
  cases hb : dStep code er r with
  | false => rw [hb] at h; cases h
  | true =>
    rw [hb] at h
    obtain ⟨f, hf⟩ := e8_some hb
    exact evalT_ok tt_ok mixed names (okSt f) (hf.trans h)
end Go.Pv
/-! ### What a step leaves stays in range. -/
namespace Go.Pv
open Go.Proofs
set_option maxRecDepth 1000000
theorem wd3_held (a : Vc) (m : Int) : wd3B (Nv.held a m) = true := by
  unfold Nv.held
  split
  · exact wd3B_iff.2 ⟨wdB_canon _, wdB_canon _, wdB_canon _⟩
  · exact wd3B_iff.2 ⟨wdB_canon _, wdB_zero, wdB_zero⟩
theorem vals_all {a : Vc} (h : wd3B a = true) (m : Int) : (Nv.vals m a).all wdB = true := by
  obtain ⟨h1, h2, h3⟩ := wd3B_iff.1 h
  unfold Nv.vals
  split
  · simp [h1, h2, h3]
  · simp [h1]
theorem move_wd {i : Ins} {h : Nv.Regs} {a : Vc} (hw : wdR h = true) (ha : wd3B a = true) (h0 : (Nv.move i h a).2.2.2.2.1 = 0) : wdR (Nv.move i h a).1 = true := by
  unfold Nv.move at h0 ⊢
  split
  · exact hw
  · rename_i h1
    rw [if_neg h1] at h0
    split
    · rename_i h2
      rw [if_pos h2] at h0
      split
      · rename_i h3; rw [if_pos h3] at h0; exact absurd h0 (by decide)
      · simp only [wdR, Bool.and_eq_true] at hw ⊢
        refine ⟨hw.1, ?_⟩
        rw [List.all_append, hw.2, vals_all ha]; rfl
    · rename_i h2
      rw [if_neg h2] at h0
      split
      · rename_i h3
        rw [if_pos h3] at h0
        split
        · rename_i h4; rw [if_pos h4] at h0; exact absurd h0 (by decide)
        · exact hw
      · split
        · exact hw
        · split
          · exact hw
          · split
            · exact hw
            · exact hw
theorem exec_wd {i : Ins} {next : Int} {er : List Int} {r : Nv.Regs} (hw : wdR r = true) (h0 : (Nv.exec i next er r).2.2.2.2.1 = 0) : wdR (Nv.exec i next er r).1 = true := by
  obtain ⟨_, _, _, e⟩ := exec_eq h0
  rw [e] at h0 ⊢
  obtain ⟨w1, w2⟩ := Bool.and_eq_true_iff.1 hw
  split
  · exact Bool.and_eq_true_iff.2 ⟨wd3_held _ _, all_take w2 _⟩
  · rename_i h
    rw [if_neg h] at h0
    exact move_wd (Bool.and_eq_true_iff.2 ⟨w1, all_take w2 _⟩) (wd3_held _ _) h0
theorem step_wd {code er : List Int} {r : Nv.Regs} (hw : wdR r = true) (h0 : (stepP code er r).2.2.2.2.1 = 0) : wdR (stepP code er r).1 = true := by
  obtain ⟨_, _, e⟩ := stepP_ok h0
  rw [e] at h0 ⊢
  exact exec_wd hw h0
/-- a memory of words -/
def MemOk (m : List Int) : Prop := m.length = 2048 ∧ ∀ w ∈ m, 0 ≤ w ∧ w ≤ 65535
theorem memOk_in {m : List Int} (h : MemOk m) : inOKb m = true := by
  simp only [inOKb, Bool.and_eq_true, List.all_eq_true, decide_eq_true_eq]
  exact ⟨h.2, Nat.ble_eq_true_of_le (by have := h.1; omega)⟩
theorem stCells_ok : ∀ (cs : List Nv.Cell) (m : List Int), MemOk m → (∀ c ∈ cs, 0 ≤ c.2 ∧ c.2 ≤ 32767) → MemOk (stCells m cs)
  | [], _, h, _ => h
  | c :: r, m, h, hc => by
    have h1 := hc c (by simp)
    refine stCells_ok r _ ⟨by simp [h.1], fun w hw => ?_⟩ fun c' h' => hc c' (by simp [h'])
    rcases List.mem_or_eq_of_mem_set hw with h2 | rfl
    · exact h.2 w h2
    · omega
theorem memOf_ok (er : List Int) : MemOk (memOf er) := by
  refine ⟨mem_len er, fun w hw => ?_⟩
  unfold memOf at hw
  obtain ⟨i, _, rfl⟩ := List.mem_map.1 hw
  omega
end Go.Pv
/-! ### SameRegs, SameWords, SameCells: registers, words, cells are the same as themselves; what is known of a function with one plain result, told in the other form. -/
namespace Go.Pv
open Go.Proofs
set_option maxRecDepth 1000000
theorem FnOK.toT {P : Program} {f : FuncId} {sa : Sig} {τ : Ty} {F : sa.den → Option (Shape.den (resShape 0 [.val τ]))} (h : FnOK P f sa [.val τ] F) : FnT P f sa [Sl.val 0 τ] F := fun x y hF => by
  obtain ⟨h1, h2⟩ := h x y hF
  refine ⟨h1, fun k β Z w cargs hz hargs => (h2 k β Z w cargs hz hargs).mono fun e w' ⟨us, β', Z', h3, h4, h5, h6, h7⟩ => ?_⟩
  have eM : Shape.putM (resShape 0 [.val τ]) k y = TSh.putM [Sl.val 0 τ] k y := by
    funext b
    have e1 : Shape.putM (resShape 0 [.val τ]) k y b = .none := by
      show (Mem.upd (fun _ => .none) k Blk.none) b = .none
      unfold Mem.upd
      cases Nat.beq b k <;> rfl
    have e2 : TSh.putM [Sl.val 0 τ] k y b = .none := by
      show (bif Nat.blt b (k + 0) then Blk.none else Blk.none) = .none
      cases Nat.blt b (k + 0) <;> rfl
    rw [e1, e2]
  have eT : ∀ t, Shape.putT (resShape 0 [.val τ]) k y t = TSh.putT [Sl.val 0 τ] k y t := fun _ => rfl
  rw [eM] at h5 h6 h7
  exact ⟨us, β', Z', h3, h4, fun t => eT t ▸ h5 t, h6, h7⟩
@[reducible] def sWW : Sig := [.val tWs, .val tWs]
@[reducible] def sRR : Sig := [.agg tRegs, .agg tRegs]
/-! ### SameRegs -/
def lsp15 (id i : Nat) : LoopSpec := ⟨id, [(2, .box tRegs), (3, .box tRegs), (i, .val tI)], [(2, .box tRegs), (3, .box tRegs)], [(4, .val .bool)]⟩
def lss15 : List LoopSpec := [lsp15 0 5, lsp15 2 6, lsp15 4 7]
abbrev X15 := Nv.Regs × Nv.Regs × Int × Unit
abbrev Y15 := (Nv.Regs × Nv.Regs × Unit) ⊕ (Bool × Unit)
noncomputable def S15 (id i : Nat) (b : Code) : X15 → Option (X15 ⊕ Y15) := stepE tt call0 Tryz.f11.ntmps (loopHook tt call0 Tryz.f11.ntmps 100000 lss15 4) 100000 (lsp15 id i) b
noncomputable def b15 (k : Nat) : Code := (loopBody k ((Tryz.f11.body).getD .skip)).getD .skip
def eqD (x y : Db) : Bool := x.1 == y.1 && (x.2 == y.2 && true)
def eqO (x y : Nv.Out) : Bool := x.1 == y.1 && (x.2.1 == y.2.1 && (eqD x.2.2 y.2.2 && true))
def rnd15 {α : Type} (p q : List α) (d : α) (eq : α → α → Bool) (a b : Nv.Regs) (i : Int) : Option (X15 ⊕ Y15) :=
  bif decide (i < (p.length : Int)) then bif inRange i p.length then bif inRange i q.length then
    bif !(eq (p.getD i.toNat d) (q.getD i.toNat d)) then some (.inr (.inr (false, ()))) else some (.inl (a, b, w64 (i + 1), ()))
  else none else none else some (.inr (.inl (a, b, ())))
theorem S15_0 (a b : Nv.Regs) (i : Int) : S15 0 5 (b15 0) (a, b, i, ()) = rnd15 a.2.2.2.1 b.2.2.2.1 (0, 0) eqD a b i := by kernel_rfl
theorem S15_2 (a b : Nv.Regs) (i : Int) : S15 2 6 (b15 2) (a, b, i, ()) = rnd15 a.2.2.2.2.1 b.2.2.2.2.1 0 (fun x y => x == y) a b i := by kernel_rfl
theorem S15_4 (a b : Nv.Regs) (i : Int) : S15 4 7 (b15 4) (a, b, i, ()) = rnd15 a.2.2.2.2.2.2 b.2.2.2.2.2.2 (0, 0, (0, 0)) eqO a b i := by kernel_rfl
noncomputable def nx15 (S : X15 → Option (X15 ⊕ Y15)) (a b : Nv.Regs) (k : Nv.Regs → Nv.Regs → Option (Bool × Unit)) : Option (Bool × Unit) := match lim S (a, b, 0, ()) with
  | none => none
  | some (.inl y) => k y.1 y.2.1
  | some (.inr y) => some y
def ne3 (x y : Nv.Regs) : Bool := !(eqD x.2.2.1.1 y.2.2.1.1 && (eqD x.2.2.1.2.1 y.2.2.1.2.1 && (eqD x.2.2.1.2.2 y.2.2.1.2.2 && true)))
theorem e15r_eq (a b : Nv.Regs) : evalF Tryz.prog tt call0 lss15 11 sRR [.val .bool] (a, b, ()) =
    bif a.1 != b.1 then some (false, ()) else bif a.2.1 != b.2.1 then some (false, ()) else bif ne3 a b then some (false, ()) else bif !(a.2.2.2.2.2.1 == b.2.2.2.2.2.1) then some (false, ()) else
    bif (a.2.2.2.1.length : Int) != (b.2.2.2.1.length : Int) then some (false, ()) else bif (a.2.2.2.2.1.length : Int) != (b.2.2.2.2.1.length : Int) then some (false, ()) else
    bif (a.2.2.2.2.2.2.length : Int) != (b.2.2.2.2.2.2.length : Int) then some (false, ()) else
    nx15 (S15 0 5 (b15 0)) a b fun a b => nx15 (S15 2 6 (b15 2)) a b fun a b => nx15 (S15 4 7 (b15 4)) a b fun _ _ => some (true, ()) := by kernel_rfl
theorem eqD_self (x : Db) : eqD x x = true := by simp [eqD]
theorem eqO_self (x : Nv.Out) : eqO x x = true := by simp [eqO, eqD_self]
theorem rnd_loop {α : Type} (S : X15 → Option (X15 ⊕ Y15)) (a : Nv.Regs) (p : List α) (d : α) (eq : α → α → Bool) (hS : ∀ i, S (a, a, i, ()) = rnd15 p p d eq a a i) (heq : ∀ x, eq x x = true) (hl : p.length ≤ 1000000000) :
    ∀ (n i : Nat), i + n = p.length → lim S (a, a, (i : Int), ()) = some (.inl (a, a, ()))
  | 0, i, h => by
    refine lim_end ?_
    rw [hS]; unfold rnd15
    rw [decide_eq_false (by omega)]; rfl
  | n + 1, i, h => by
    have hs : S (a, a, (i : Int), ()) = some (.inl (a, a, ((i + 1 : Nat) : Int), ())) := by
      rw [hS]; unfold rnd15
      have e1 : inRange (i : Int) p.length = true := by simp [inRange]; omega
      rw [decide_eq_true (by omega), e1, heq, w64_small (by omega) (by omega)]
      rfl
    rw [lim_next hs]
    exact rnd_loop S a p d eq hS heq hl n (i + 1) (by omega)
def smallR (a : Nv.Regs) : Bool := decide (a.2.2.2.1.length ≤ 1000000000) && decide (a.2.2.2.2.1.length ≤ 1000000000) && decide (a.2.2.2.2.2.2.length ≤ 1000000000)
theorem sameR_self (a : Nv.Regs) (h : smallR a = true) : evalF Tryz.prog tt call0 lss15 11 sRR [.val .bool] (a, a, ()) = some (true, ()) := by
  simp only [smallR, Bool.and_eq_true, decide_eq_true_eq] at h
  have e0 : ((0 : Nat) : Int) = 0 := rfl
  have l0 := rnd_loop (S15 0 5 (b15 0)) a a.2.2.2.1 (0, 0) eqD (S15_0 a a) eqD_self h.1.1 a.2.2.2.1.length 0 (by omega)
  have l2 := rnd_loop (S15 2 6 (b15 2)) a a.2.2.2.2.1 0 (fun x y => x == y) (S15_2 a a) (fun x => by simp) h.1.2 a.2.2.2.2.1.length 0 (by omega)
  have l4 := rnd_loop (S15 4 7 (b15 4)) a a.2.2.2.2.2.2 (0, 0, (0, 0)) eqO (S15_4 a a) eqO_self h.2 a.2.2.2.2.2.2.length 0 (by omega)
  rw [e0] at l0 l2 l4
  rw [e15r_eq]
  unfold nx15
  have hn : ne3 a a = false := by simp [ne3, eqD_self]
  simp only [bne_self_eq_false, cond_false, hn, beq_self_eq_true, Bool.not_true]
  rw [l0]
  simp only
  rw [l2]
  simp only
  rw [l4]
/-- the same registers -/
noncomputable def dSameR (a b : Nv.Regs) : Bool := @decide (a = b) (Classical.propDecidable _) && smallR a
theorem m15 : FnOK Tryz.prog 11 sRR [.val .bool] fun x => bif dSameR x.1 x.2.1 then some (true, ()) else none := fnDom fun x hx => by
  obtain ⟨a, b, ⟨⟩⟩ := x
  simp only [dSameR, Bool.and_eq_true, decide_eq_true_eq] at hx
  obtain ⟨rfl, h⟩ := hx
  exact ⟨_, call0_ok, lss15, sameR_self a h⟩
def dSame (a b : List Int) : Bool := decide (a = b) && decide (a.length ≤ 1000000000)
theorem m14 : FnOK Tryz.prog 16 sWW [.val .bool] fun x => bif dSame x.1 x.2.1 then some (true, ()) else none := fnDom fun x hx => by
  obtain ⟨a, b, ⟨⟩⟩ := x
  simp only [dSame, Bool.and_eq_true, decide_eq_true_eq] at hx
  obtain ⟨rfl, h⟩ := hx
  exact ⟨_, call0_ok, [loop14], same_self a h⟩
/-! ### SameCells -/
@[reducible] def tCs : Ty := .slice tCell
@[reducible] def sCC : Sig := [.val tCs, .val tCs]
def loop10 : LoopSpec := ⟨0, [(0, .val tCs), (1, .val tCs), (5, .val tI)], [], [(4, .val .bool)]⟩
abbrev X10 := List Nv.Cell × List Nv.Cell × Int × Unit
noncomputable def S10 : X10 → Option (X10 ⊕ (Unit ⊕ (Bool × Unit))) := stepE tt call0 Tryz.f10.ntmps (loopHook tt call0 Tryz.f10.ntmps 100000 [loop10] 4) 100000 loop10 ((loopBody 0 ((Tryz.f10.body).getD .skip)).getD .skip)
theorem S10_eq (p q : List Nv.Cell) (i : Int) : S10 (p, q, i, ()) = bif decide (i < (p.length : Int)) then bif inRange i p.length then bif inRange i q.length then
    bif !(eqD (p.getD i.toNat (0, 0)) (q.getD i.toNat (0, 0))) then some (.inr (.inr (false, ()))) else some (.inl (p, q, w64 (i + 1), ()))
    else none else none else some (.inr (.inl ())) := by kernel_rfl
theorem e10_eq (p q : List Nv.Cell) : evalF Tryz.prog tt call0 [loop10] 10 sCC [.val .bool] (p, q, ()) = bif (p.length : Int) != (q.length : Int) then some (false, ()) else
    match lim S10 (p, q, 0, ()) with
    | none => none
    | some (.inl _) => some (true, ())
    | some (.inr y) => some (y.1, ()) := by kernel_rfl
theorem cells_same (l : List Nv.Cell) (hl : l.length ≤ 1000000000) : ∀ (n i : Nat), i + n = l.length → lim S10 (l, l, (i : Int), ()) = some (.inl ())
  | 0, i, h => by
    refine lim_end ?_
    rw [S10_eq, decide_eq_false (by omega)]; rfl
  | n + 1, i, h => by
    have hs : S10 (l, l, (i : Int), ()) = some (.inl (l, l, ((i + 1 : Nat) : Int), ())) := by
      have h2 : inRange (i : Int) l.length = true := by simp [inRange]; omega
      rw [S10_eq, decide_eq_true (by omega), h2, eqD_self, w64_small (by omega) (by omega)]
      rfl
    rw [lim_next hs]
    exact cells_same l hl n (i + 1) (by omega)
def dSameC (a b : List Nv.Cell) : Bool := decide (a = b) && decide (a.length ≤ 1000000000)
theorem m10 : FnOK Tryz.prog 10 sCC [.val .bool] fun x => bif dSameC x.1 x.2.1 then some (true, ()) else none := fnDom fun x hx => by
  obtain ⟨a, b, ⟨⟩⟩ := x
  simp only [dSameC, Bool.and_eq_true, decide_eq_true_eq] at hx
  obtain ⟨rfl, h⟩ := hx
  refine ⟨_, call0_ok, [loop10], ?_⟩
  rw [e10_eq]
  have h1 := cells_same a h a.length 0 (by omega)
  have e0 : ((0 : Nat) : Int) = 0 := rfl
  rw [e0] at h1
  rw [h1]
  simp
  rfl
end Go.Pv
/-! ### The reference's Memory, Run and Need, of what is known of a step and of decoding: as the code says it. -/
namespace Go.Pv
open Go.Proofs
set_option maxRecDepth 1000000
/-! ### Memory -/
structure GM where
  word : List Int → Int → Int
  dW : Int → Bool
def specsM (g : GM) (R : Type) (f : FuncId) : Option (List V → Mem → Nat → (Eff → Option R) → Option R) :=
  match f with
  | 76 => some (specD [.val (.slice tW), .val tI] [.val tW] (fun x => g.dW x.2.1) fun x => (g.word x.1 x.2.1, ()))
  | _ => none
noncomputable def callMm (g : GM) (R : Type) : CallE R := callsE Tryz.prog tt (specsM g R) 20
def mem36 : LoopT := ⟨0, [Sl.val 0 tWs, Sl.row 3 tW, Sl.val 4 tI], [Sl.row 3 tW], []⟩
noncomputable def SM (g : GM) : List Int × List Int × Int × Unit → Option ((List Int × List Int × Int × Unit) ⊕ ((List Int × Unit) ⊕ Unit)) :=
  stepT tt (callMm g) Tryz.f36.ntmps (hookT tt (callMm g) 100000 [mem36] [] Tryz.f36.ntmps 4) 100000 mem36 ((loopBody 0 ((Tryz.f36.body).getD .skip)).getD .skip)
theorem SM_eq (g : GM) (l m : List Int) (i : Int) : SM g (l, m, i, ()) = bif decide (i < 2048) then onlyN (g.dW i) (bif inRange i m.length then
    some (.inl (l, m.set (i.toNat + 0) (Int.tmod (g.word l i) 32768), w64 (i + 1), ())) else none) else some (.inr (.inl (m, ()))) := by kernel_rfl
theorem e36m_eq (g : GM) (l : List Int) : evalT Tryz.prog tt (callMm g) [mem36] [] 36 [.val tWs] [Sl.row 0 tW] (l, ()) =
    match lim (SM g) (l, mem0, 0, ()) with
    | none => none
    | some (.inl y) => some (y.1, ())
    | some (.inr _) => none := by kernel_rfl
/-! ### Run -/
structure GQ where
  step : List Int → List Int → Nv.Regs → Nv.Res
  dStep : List Int → List Int → Nv.Regs → Bool
  mem : List Int → List Int
  dMem : List Int → Bool
def specsRq (g : GQ) (R : Type) (f : FuncId) : Option (List V → Mem → Nat → (Eff → Option R) → Option R) :=
  match f with
  | 8 => some (specL sStep rStep fun x => bif g.dStep x.1 x.2.1 x.2.2.1 then some (g.step x.1 x.2.1 x.2.2.1) else none)
  | 36 => some (specL [.val tWs] [Sl.row 0 tW] fun x => bif g.dMem x.1 then some (g.mem x.1, ()) else none)
  | _ => none
noncomputable def callRq (g : GQ) (R : Type) : CallE R := callsE Tryz.prog tt (specsRq g R) 20
def rq0 : LoopT := ⟨0, [Sl.val 0 tWs, Sl.val 3 tI, Sl.box 9 trRegs, Sl.row 14 tW, Sl.box 15 trRegs, Sl.val 16 tI], [Sl.val 3 tI, Sl.box 9 trRegs, Sl.row 14 tW, Sl.box 15 trRegs],
  [Sl.row 8 tW, Sl.box 9 trRegs, Sl.val 10 (.int .u8), Sl.val 11 tI, Sl.val 12 tI, Sl.val 13 tI]⟩
def rq2 : LoopT := ⟨2, [Sl.val 0 tWs, Sl.val 3 tI, Sl.box 9 trRegs, Sl.row 14 tW, Sl.fbox 15 tRegs, Sl.val 16 tI, Sl.box 17 trRegs, Sl.fval 18 (.slice tCell), Sl.val 19 (.int .u8), Sl.val 20 tI, Sl.val 22 tI],
  [Sl.val 0 tWs, Sl.val 3 tI, Sl.box 9 trRegs, Sl.row 14 tW, Sl.fbox 15 tRegs, Sl.val 16 tI, Sl.box 17 trRegs, Sl.val 19 (.int .u8), Sl.val 20 tI], []⟩
def rqs : List LoopT := [rq0, rq2]
noncomputable def bodyQ (k : Nat) : Code := (loopBody k ((Tryz.f13.body).getD .skip)).getD .skip
abbrev XQ0 := List Int × Int × Nv.Regs × List Int × Nv.Regs × Int × Unit
abbrev YQ0 := Int × Nv.Regs × List Int × Nv.Regs × Unit
abbrev XQ2 := List Int × Int × Nv.Regs × List Int × Nv.Regs × Int × Nv.Regs × List Nv.Cell × Int × Int × Int × Unit
abbrev YQ2 := List Int × Int × Nv.Regs × List Int × Nv.Regs × Int × Nv.Regs × Int × Int × Unit
noncomputable def SQ2 (g : GQ) : XQ2 → Option (XQ2 ⊕ (YQ2 ⊕ Unit)) := stepT tt (callRq g) Tryz.f13.ntmps (hookT tt (callRq g) 100000 rqs [] Tryz.f13.ntmps 3) 100000 rq2 (bodyQ 2)
noncomputable def SQ0 (g : GQ) : XQ0 → Option (XQ0 ⊕ (YQ0 ⊕ Fin)) := stepT tt (callRq g) Tryz.f13.ntmps (hookT tt (callRq g) 100000 rqs [] Tryz.f13.ntmps 4) 100000 rq0 (bodyQ 0)
theorem SQ2_eq (g : GQ) (a : List Int) (b : Int) (r9 : Nv.Regs) (m : List Int) (r15 : Nv.Regs) (n : Int) (r17 : Nv.Regs) (cs : List Nv.Cell) (ev num k : Int) : SQ2 g (a, b, r9, m, r15, n, r17, cs, ev, num, k, ()) =
    bif decide (k < (cs.length : Int)) then bif inRange k cs.length then bif inRange k cs.length then bif inRange (cs.getD k.toNat (0, 0)).1 m.length then
      some (.inl (a, b, r9, m.set ((cs.getD k.toNat (0, 0)).1.toNat + 0) (cs.getD k.toNat (0, 0)).2, r15, n, r17, cs, ev, num, w64 (k + 1), ())) else none else none else none
    else some (.inr (.inl (a, b, r9, m, r15, n, r17, ev, num, ()))) := by kernel_rfl
theorem SQ0_eq (g : GQ) (a : List Int) (b : Int) (r9 : Nv.Regs) (m : List Int) (r15 : Nv.Regs) (n : Int) : SQ0 g (a, b, r9, m, r15, n, ()) =
    bif decide (n < b) then
      match (bif g.dStep a m r15 then some (g.step a m r15) else none) with
      | none => none
      | some z => bif z.2.2.2.2.1 != 0 then some (.inr (.inr (errF z.2.2.2.2.1))) else
        match lim (SQ2 g) (a, b, r9, m, r15, n, z.1, z.2.1, z.2.2.1, z.2.2.2.1, 0, ()) with
        | none => none
        | some (.inl w) => bif w.2.2.2.2.2.2.2.1 != 0 then some (.inr (.inr (w.2.2.2.1, w.2.2.2.2.2.2.1, w.2.2.2.2.2.2.2.1, w.2.2.2.2.2.2.2.2.1, w64 (w.2.2.2.2.2.1 + 1), 0, ())))
          else some (.inl (w.1, w.2.1, w.2.2.1, w.2.2.2.1, w.2.2.2.2.2.2.1, w64 (w.2.2.2.2.2.1 + 1), ()))
        | some (.inr _) => none
    else some (.inr (.inl (b, r9, m, r15, ()))) := by kernel_rfl
noncomputable abbrev e13 (g : GQ) (code er : List Int) (at_ most : Int) : Option Fin := evalT Tryz.prog tt (callRq g) rqs [] 13 sRun rRun (code, er, at_, most, ())
theorem e13q_eq (g : GQ) (a b : List Int) (c d : Int) : e13 g a b c d =
    bif decide (d < 0) then some (errF 2) else bif decide (d > 10000) then some (errF 2) else
      match (bif g.dMem b then some (g.mem b, ()) else none) with
      | none => none
      | some y =>
        match lim (SQ0 g) (a, d, Nv.regs0, y.1, (c, 0, Nv.zero3, [], [], false, []), 0, ()) with
        | none => none
        | some (.inl y) => some (y.2.2.1, y.2.2.2.1, 0, 0, y.1, 0, ())
        | some (.inr y) => some y := by kernel_rfl
/-! ### Need -/
def specsN2 (g : GD) (R : Type) (f : FuncId) : Option (List V → Mem → Nat → (Eff → Option R) → Option R) :=
  match f with
  | 27 => some (specD sDec rDec (fun x => g.dDec x.1) fun x => ((g.dec x.1 x.2.1).1, (g.dec x.1 x.2.1).2.1, (g.dec x.1 x.2.1).2.2, ()))
  | _ => none
noncomputable def callN2 (g : GD) (R : Type) : CallE R := callsE Tryz.prog tt (specsN2 g R) 20
def loop15 : LoopSpec := ⟨0, [(0, .val tWs), (1, .val tI), (6, .val tI)], [], [(4, .val tI), (5, .val tI)]⟩
noncomputable def S15n (g : GD) : List Int × Int × Int × Unit → Option ((List Int × Int × Int × Unit) ⊕ (Unit ⊕ (Int × Int × Unit))) :=
  stepE tt (callN2 g) Tryz.f15.ntmps (loopHook tt (callN2 g) Tryz.f15.ntmps 100000 [loop15] 4) 100000 loop15 ((loopBody 0 ((Tryz.f15.body).getD .skip)).getD .skip)
theorem S15n_eq (g : GD) (l : List Int) (i n : Int) : S15n g (l, i, n, ()) = onlyN (g.dDec l) (bif (g.dec l i).2.2 != 0 then some (.inr (.inr (0, (g.dec l i).2.2, ()))) else
    bif (g.dec l i).1.1 == 36 then some (.inr (.inr (w64 (n + 1), 0, ()))) else bif (g.dec l i).1.1 == 37 then some (.inr (.inr (w64 (n + 1), 0, ()))) else bif (g.dec l i).1.1 == 38 then some (.inr (.inr (w64 (n + 1), 0, ()))) else
    some (.inl (l, (g.dec l i).2.1, w64 (n + 1), ()))) := by kernel_rfl
theorem e15n_eq (g : GD) (l : List Int) (i : Int) : evalF Tryz.prog tt (callN2 g) [loop15] 15 sDec [.val tI, .val tI] (l, i, ()) =
    match lim (S15n g) (l, i, 0, ()) with
    | none => none
    | some (.inl _) => none
    | some (.inr y) => some y := by kernel_rfl
end Go.Pv
/-! ### The reference's Memory, Run and Need compute what the plain text says. -/
namespace Go.Pv
open Go.Proofs
set_option maxRecDepth 1000000
/-! ### Memory -/
def gMm : GM := ⟨Nv.word, fun i => decide (0 ≤ i)⟩
theorem callMm_ok (R : Type) : CallsOK Tryz.prog (callMm gMm R) := callsE_ok tt_ok mixed names (fun f s hs => by
  unfold specsM at hs
  split at hs
  · cases hs; exact specD_ok k76 flat_w (cntN 76 (by kernel_rfl))
  · cases hs) 20
theorem mem_loop {l : List Int} (hl : inOKb l = true) : ∀ (j i : Nat) (m : List Int), i + j = 2048 → m.length = 2048 → (∀ t, t < i → m[t]? = some (Nv.word l (t : Int) % 32768)) →
    lim (SM gMm) (l, m, (i : Int), ()) = some (.inl (memOf l, ()))
  | 0, i, m, h, hm, hv => by
    refine lim_end ?_
    rw [SM_eq, decide_eq_false (by omega), cond_false]
    have : m = memOf l := by
      apply List.ext_getElem?
      intro t
      by_cases ht : t < 2048
      · rw [hv t (by omega)]
        unfold memOf
        rw [List.getElem?_map, List.getElem?_range ht]; rfl
      · rw [List.getElem?_eq_none (by omega), List.getElem?_eq_none (by rw [mem_len]; omega)]
    rw [this]
  | j + 1, i, m, h, hm, hv => by
    have hw := word_range hl (i : Int)
    have hs : SM gMm (l, m, (i : Int), ()) = some (.inl (l, m.set i (Nv.word l (i : Int) % 32768), ((i + 1 : Nat) : Int), ())) := by
      have e1 : inRange (i : Int) m.length = true := by simp [inRange]; omega
      have e2 : Int.tmod (Nv.word l (i : Int)) 32768 = Nv.word l (i : Int) % 32768 := Int.tmod_eq_emod_of_nonneg hw.1
      rw [SM_eq, decide_eq_true (by omega), onlyT (show gMm.dW (i : Int) = true from (decide_eq_true (show (0 : Int) ≤ (i : Int) by omega))), e1, w64_small (by omega) (by omega)]
      show some (Sum.inl (l, m.set (Int.toNat (i : Int)) (Int.tmod (Nv.word l (i : Int)) 32768), _)) = _
      rw [e2, Int.toNat_natCast]
      rfl
    rw [lim_next hs]
    refine mem_loop hl j (i + 1) _ (by omega) (by simp [hm]) fun t ht => ?_
    by_cases he : i = t
    · subst he
      rw [List.getElem?_set_self (by omega)]
    · rw [List.getElem?_set_ne he]
      exact hv t (by omega)
theorem k36 : FnT Tryz.prog 36 [.val tWs] [Sl.row 0 tW] fun x => bif inOKb x.1 then some (memOf x.1, ()) else none := fun x y h => by
  obtain ⟨l, ⟨⟩⟩ := x
  change (bif inOKb l then some (memOf l, ()) else none) = some y at h
  cases hb : inOKb l with
  | false => rw [hb] at h; cases h
  | true =>
    rw [hb] at h
    refine evalT_ok tt_ok mixed names callMm_ok ((e36m_eq gMm l).trans (Eq.trans ?_ h))
    have hl := mem_loop hb 2048 0 mem0 (by omega) (by simp [mem0]) (fun t ht => by omega)
    have e0 : ((0 : Nat) : Int) = 0 := rfl
    rw [e0] at hl
    rw [hl]
    rfl
/-! ### Run -/
def gQ : GQ := ⟨stepP, dStep, memOf, inOKb⟩
theorem callRq_ok (R : Type) : CallsOK Tryz.prog (callRq gQ R) := callsE_ok tt_ok mixed names (fun f s hs => by
  unfold specsRq at hs
  split at hs
  · cases hs; exact specL_ok fn8 (cntN 8 (by kernel_rfl))
  · cases hs; exact specL_ok k36 (cntN 36 (by kernel_rfl))
  · cases hs) 20
theorem cellsQ_loop (a : List Int) (b : Int) (r9 r15 : Nv.Regs) (n : Int) (r17 : Nv.Regs) (ev num : Int) (cs : List Nv.Cell) (hl : cs.length ≤ 100) : ∀ (rest : List Nv.Cell) (k : Nat) (m : List Int), cs.drop k = rest →
    (∀ c ∈ rest, 0 ≤ c.1 ∧ c.1 < m.length) → lim (SQ2 gQ) (a, b, r9, m, r15, n, r17, cs, ev, num, (k : Int), ()) = some (.inl (a, b, r9, stCells m rest, r15, n, r17, ev, num, ()))
  | [], k, m, hd, hc => by
    have hk : cs.length ≤ k := by
      apply Decidable.byContradiction
      intro h
      have := congrArg List.length hd
      simp at this; omega
    refine lim_end ?_
    rw [SQ2_eq, decide_eq_false (by omega)]
    rfl
  | c :: rest, k, m, hd, hc => by
    have hk : k < cs.length := by
      apply Decidable.byContradiction
      intro h
      rw [List.drop_eq_nil_of_le (by omega)] at hd; cases hd
    have hm : cs.getD (Int.toNat (k : Int)) (0, 0) = c := by
      have := congrArg (fun l => l[0]?) hd
      simp at this
      simp [List.getD, this]
    have hr : cs.drop (k + 1) = rest := by rw [← List.tail_drop, hd]; rfl
    have h1 := hc c (by simp)
    have hs : SQ2 gQ (a, b, r9, m, r15, n, r17, cs, ev, num, (k : Int), ()) = some (.inl (a, b, r9, m.set c.1.toNat c.2, r15, n, r17, cs, ev, num, ((k + 1 : Nat) : Int), ())) := by
      have e1 : inRange (k : Int) cs.length = true := by simp [inRange]; omega
      have e2 : inRange c.1 m.length = true := by simp [inRange]; omega
      rw [SQ2_eq, decide_eq_true (by omega), e1, hm, e2, w64_small (by omega) (by omega)]
      rfl
    rw [lim_next hs]
    exact cellsQ_loop a b r9 r15 n r17 ev num cs hl rest (k + 1) _ hr fun c' hc' => by
      have := hc c' (by simp [hc'])
      simpa using this
theorem runQ_loop (code : List Int) (most : Int) (hx : most ≤ 10000) (r9 : Nv.Regs) (hc : inOKb code = true) : ∀ (k : Nat) (n : Int) (m : List Int) (g : Nv.Regs), 0 ≤ n → n + k = most → MemOk m → wdR g = true →
    ∃ y, lim (SQ0 gQ) (code, most, r9, m, g, n, ()) = some y ∧ (match y with
      | .inl y => (y.2.2.1, y.2.2.2.1, (0 : Int), (0 : Int), y.1, (0 : Int), ())
      | .inr y => y) = runK (stepP code) k m g n
  | 0, n, m, g, h0, h1, hm, hw => by
    refine ⟨_, lim_end (by rw [SQ0_eq, decide_eq_false (by omega)]; rfl), ?_⟩
    simp only [runK]
    have : most = n := by omega
    rw [this]
  | k + 1, n, m, g, h0, h1, hm, hw => by
    have hb : (bif gQ.dStep code m g then some (gQ.step code m g) else none) = some (stepP code m g) := by
      show (bif dStep code m g then some (stepP code m g) else none) = _
      rw [show dStep code m g = true by simp only [dStep, Bool.and_eq_true]; exact ⟨hc, memOk_in hm, hw⟩]; rfl
    by_cases he : (stepP code m g).2.2.2.2.1 = 0
    · obtain ⟨c1, c2⟩ := step_cells he
      have hl := cellsQ_loop code most r9 g n (stepP code m g).1 (stepP code m g).2.2.1 (stepP code m g).2.2.2.1 (stepP code m g).2.1 (by omega) (stepP code m g).2.1 0 m rfl (fun c hcm => by have := c2 c hcm; have := hm.1; omega)
      have e0 : ((0 : Nat) : Int) = 0 := rfl
      rw [e0] at hl
      by_cases hev : (stepP code m g).2.2.1 = 0
      · have hs : SQ0 gQ (code, most, r9, m, g, n, ()) = some (.inl (code, most, r9, stCells m (stepP code m g).2.1, (stepP code m g).1, n + 1, ())) := by
          rw [SQ0_eq, decide_eq_true (by omega), cond_true, hb]
          simp only
          rw [show ((stepP code m g).2.2.2.2.1 != 0) = false by simp [he], cond_false, hl]
          simp only
          rw [show ((stepP code m g).2.2.1 != 0) = false by simp [hev], cond_false, w64_small (by omega) (by omega)]
        obtain ⟨y, h2, h3⟩ := runQ_loop code most hx r9 hc k (n + 1) (stCells m (stepP code m g).2.1) (stepP code m g).1 (by omega) (by omega) (stCells_ok _ _ hm fun c h => (c2 c h).2) (step_wd hw he)
        refine ⟨y, (lim_next hs).trans h2, ?_⟩
        rw [h3]
        simp only [runK]
        rw [if_neg (fun h => h he), if_neg (fun h => h hev)]
      · refine ⟨.inr (stCells m (stepP code m g).2.1, (stepP code m g).1, (stepP code m g).2.2.1, (stepP code m g).2.2.2.1, n + 1, 0, ()), lim_end ?_, ?_⟩
        · rw [SQ0_eq, decide_eq_true (by omega), cond_true, hb]
          simp only
          rw [show ((stepP code m g).2.2.2.2.1 != 0) = false by simp [he], cond_false, hl]
          simp only
          rw [show ((stepP code m g).2.2.1 != 0) = true by simp [hev], cond_true, w64_small (by omega) (by omega)]
        · simp only [runK]
          rw [if_neg (fun h => h he), if_pos hev]
    · refine ⟨.inr (errF (stepP code m g).2.2.2.2.1), lim_end ?_, ?_⟩
      · rw [SQ0_eq, decide_eq_true (by omega), cond_true, hb]
        simp only
        rw [show ((stepP code m g).2.2.2.2.1 != 0) = true by simp [he], cond_true]
      · simp only [runK]
        rw [if_pos he]
theorem e13_run {code er : List Int} (hc : inOKb code = true) (he : inOKb er = true) (at_ most : Int) : e13 gQ code er at_ most = some (runP code er at_ most) := by
  rw [e13q_eq]
  unfold runP
  by_cases h1 : most < 0
  · rw [decide_eq_true h1, if_pos (show most < 0 ∨ most > 10000 from .inl h1)]; rfl
  rw [decide_eq_false h1, cond_false]
  by_cases h2 : most > 10000
  · rw [decide_eq_true h2, if_pos (show most < 0 ∨ most > 10000 from .inr h2)]; rfl
  rw [decide_eq_false h2, cond_false, if_neg (show ¬ (most < 0 ∨ most > 10000) by omega), show gQ.dMem er = true from he]
  simp only [cond_true]
  obtain ⟨y, h3, h4⟩ := runQ_loop code most (by omega) Nv.regs0 hc most.toNat 0 (memOf er) (start at_) (by omega) (by omega) (memOf_ok er) (by rfl)
  have h3' : lim (SQ0 gQ) (code, most, Nv.regs0, gQ.mem er, (at_, 0, Nv.zero3, [], [], false, []), 0, ()) = some y := h3
  rw [h3', ← h4]
  cases y <;> rfl
theorem fn13r : FnT Tryz.prog 13 sRun rRun fun x => bif inOKb x.1 && inOKb x.2.1 then some (runP x.1 x.2.1 x.2.2.1 x.2.2.2.1) else none := fun x y h => by
  obtain ⟨code, er, at_, most, ⟨⟩⟩ := x
  change (bif inOKb code && inOKb er then some (runP code er at_ most) else none) = some y at h
  cases hb : inOKb code && inOKb er with
  | false => rw [hb] at h; cases h
  | true =>
    rw [hb] at h
    obtain ⟨h1, h2⟩ := Bool.and_eq_true_iff.1 hb
    exact evalT_ok tt_ok mixed names callRq_ok ((e13_run h1 h2 at_ most).trans h)
/-! ### Need -/
theorem needR_loop (code : List Int) (hc : inOKb code = true) : ∀ (f : Nat) (i n : Int), 1 ≤ f → (code.length : Int) + 1 ≤ f + i ∨ i < 0 → n + f ≤ 1000000000 → 0 ≤ n →
    lim (S15n gD) (code, i, n, ()) = some (.inr ((needF code f i (n + 1)).1, (needF code f i (n + 1)).2, ()))
  | 0, i, n, h1, _, _, _ => by omega
  | f + 1, i, n, h1, hf, hn, hn0 => by
    have hdom : gD.dDec code = true := hc
    simp only [needF]
    by_cases hd : (decP code i).2.2 = 0
    · rw [if_neg (fun h => h hd)]
      have hS : S15n gD (code, i, n, ()) = if isEv (decP code i).1.1 = true then some (.inr (.inr (n + 1, 0, ()))) else some (.inl (code, (decP code i).2.1, n + 1, ())) := by
        rw [S15n_eq, hdom]
        show (bif (decP code i).2.2 != 0 then _ else _) = _
        rw [show ((decP code i).2.2 != 0) = false by simp [hd], cond_false, w64_small (by omega) (by omega)]
        show (bif (decP code i).1.1 == 36 then _ else bif (decP code i).1.1 == 37 then _ else bif (decP code i).1.1 == 38 then _ else _) = _
        unfold isEv
        simp only [beq_dec, gD]
        cases decide ((decP code i).1.1 = 36) <;> cases decide ((decP code i).1.1 = 37) <;> cases decide ((decP code i).1.1 = 38) <;> rfl
      by_cases hev : isEv (decP code i).1.1 = true
      · rw [if_pos hev] at hS ⊢
        exact lim_end hS
      · rw [if_neg hev] at hS ⊢
        rw [lim_next hS]
        obtain ⟨hfi, e, h2, h3⟩ := dec_fits hd
        have := len_pos hfi.1.1 hfi.1.2
        exact needR_loop code hc f _ (n + 1) (by omega) (.inl (by omega)) (by omega) (by omega)
    · rw [if_pos hd]
      refine lim_end ?_
      rw [S15n_eq, hdom]
      show (bif (decP code i).2.2 != 0 then _ else _) = _
      rw [show ((decP code i).2.2 != 0) = true by simp [hd]]
      rfl
theorem callN2_ok (R : Type) : CallsOK Tryz.prog (callN2 gD R) := callsE_ok tt_ok mixed names (fun f s hs => by
  unfold specsN2 at hs
  split at hs
  · cases hs; exact specD_ok k27 flatDec (cntN 27 (by kernel_rfl))
  · cases hs) 20
theorem v15n (code : List Int) (i : Int) (h : dNeed code = true) : evalF Tryz.prog tt (callN2 gD) [loop15] 15 sDec [.val tI, .val tI] (code, i, ()) = some ((needP code i).1, (needP code i).2, ()) := by
  simp only [dNeed, Bool.and_eq_true, decide_eq_true_eq] at h
  rw [e15n_eq, needR_loop code h.1 (code.length + 2) i 0 (by omega) (by omega) (by omega) (by omega)]
  rfl
theorem k15 : FnOK Tryz.prog 15 sDec [.val tI, .val tI] fun x => bif dNeed x.1 then some ((needP x.1 x.2.1).1, (needP x.1 x.2.1).2, ()) else none := fnDom fun x hx => ⟨_, callN2_ok, [loop15], v15n x.1 x.2.1 hx⟩
end Go.Pv
/-! ### The laws InterpSteps and InterpRuns, run with what is known of their callees. -/
namespace Go.Pv
open Go.Proofs
set_option maxRecDepth 1000000
structure GZ where
  step : List Int → List Int → Nv.Regs → Nv.Res
  dom : List Int → Bool
  dStep : List Int → List Int → Nv.Regs → Bool
  run : List Int → List Int → Int → Int → Fin
  dRun : List Int → List Int → Bool
  need : List Int → Int → Int × Int
  dNd : List Int → Bool
  sameW : List Int → List Int → Bool
  dSameW : List Int → List Int → Bool
  sameC : List Nv.Cell → List Nv.Cell → Bool
  dSameC : List Nv.Cell → List Nv.Cell → Bool
  sameR : Nv.Regs → Nv.Regs → Bool
  dSameR : Nv.Regs → Nv.Regs → Bool
def specsZ (g : GZ) (R : Type) (f : FuncId) : Option (List V → Mem → Nat → (Eff → Option R) → Option R) :=
  match f with
  | 5 => some (specD [] [.val .bool] (fun _ => true) fun _ => (true, ()))
  | 7 => some (specL sStep rStep fun x => bif g.dom x.1 then some (g.step x.1 x.2.1 x.2.2.1) else none)
  | 8 => some (specL sStep rStep fun x => bif g.dStep x.1 x.2.1 x.2.2.1 then some (g.step x.1 x.2.1 x.2.2.1) else none)
  | 10 => some (specL sCC [Sl.val 0 .bool] fun x => bif g.dSameC x.1 x.2.1 then some (g.sameC x.1 x.2.1, ()) else none)
  | 11 => some (specL sRR [Sl.val 0 .bool] fun x => bif g.dSameR x.1 x.2.1 then some (g.sameR x.1 x.2.1, ()) else none)
  | 12 => some (specL sRun rRun fun x => bif g.dom x.1 then some (g.run x.1 x.2.1 x.2.2.1 x.2.2.2.1) else none)
  | 13 => some (specL sRun rRun fun x => bif g.dRun x.1 x.2.1 then some (g.run x.1 x.2.1 x.2.2.1 x.2.2.2.1) else none)
  | 14 => some (specD sDec [.val tI, .val tI] (fun x => g.dNd x.1) fun x => ((g.need x.1 x.2.1).1, (g.need x.1 x.2.1).2, ()))
  | 15 => some (specD sDec [.val tI, .val tI] (fun x => g.dNd x.1) fun x => ((g.need x.1 x.2.1).1, (g.need x.1 x.2.1).2, ()))
  | 16 => some (specL sWW [Sl.val 0 .bool] fun x => bif g.dSameW x.1 x.2.1 then some (g.sameW x.1 x.2.1, ()) else none)
  | _ => none
noncomputable def callZ (g : GZ) (R : Type) : CallE R := callsE Tryz.prog tt (specsZ g R) 20
abbrev OZ := Option (Bool × Unit)
def askZ (d v : Bool) (k : Bool → OZ) : OZ := match (bif d then some (v, ()) else none : OZ) with
  | none => none
  | some w => k w.1
def getZ {α : Type} (d : Bool) (v : α) (k : α → OZ) : OZ := match (bif d then some v else none : Option α) with
  | none => none
  | some w => k w
def andZ (b : Bool) (k : OZ) : OZ := bif b then k else some (false, ())
def lightZ (a b : List Int) (k : OZ) : OZ := bif decide ((a.length : Int) ≤ 2000) then bif !decide ((b.length : Int) ≤ 3000) then some (true, ()) else k else some (true, ())
noncomputable abbrev e3 (g : GZ) (code er : List Int) (r : Nv.Regs) : OZ := evalT Tryz.prog tt (callZ g) [] [] 3 sStep [Sl.val 0 .bool] (code, er, r, ())
noncomputable abbrev e4 (g : GZ) (code er : List Int) (at_ most : Int) : OZ := evalT Tryz.prog tt (callZ g) [] [] 4 sRun [Sl.val 0 .bool] (code, er, at_, most, ())
theorem e3_eq (g : GZ) (a b : List Int) (r : Nv.Regs) : e3 g a b r = lightZ a b (getZ (g.dom a) (g.step a b r) fun y => getZ (g.dStep a b r) (g.step a b r) fun z =>
    andZ (y.2.2.2.2.1 == z.2.2.2.2.1) (andZ (y.2.2.1 == z.2.2.1) (andZ (y.2.2.2.1 == z.2.2.2.1) (askZ (g.dSameC y.2.1 z.2.1) (g.sameC y.2.1 z.2.1) fun w => andZ w (askZ (g.dSameR y.1 z.1) (g.sameR y.1 z.1) fun w =>
      andZ w (askZ (g.dSameR (r.1, 0, Nv.zero3, [], [], false, []) (r.1, 0, Nv.zero3, [], [], false, [])) (g.sameR (r.1, 0, Nv.zero3, [], [], false, []) (r.1, 0, Nv.zero3, [], [], false, [])) fun w => some (w, ()))))))) := by kernel_rfl
theorem e4_eq (g : GZ) (a b : List Int) (c d : Int) : e4 g a b c d = lightZ a b (getZ (g.dom a) (g.run a b c d) fun y => getZ (g.dRun a b) (g.run a b c d) fun z => onlyN (g.dNd a) (onlyN (g.dNd a) (
    andZ (y.2.2.2.2.2.1 == z.2.2.2.2.2.1) (andZ (y.2.2.1 == z.2.2.1) (andZ (y.2.2.2.1 == z.2.2.2.1) (andZ (y.2.2.2.2.1 == z.2.2.2.2.1) (askZ (g.dSameW y.1 z.1) (g.sameW y.1 z.1) fun w => andZ w (askZ (g.dSameR y.2.1 z.2.1) (g.sameR y.2.1 z.2.1) fun w =>
      andZ w (andZ ((g.need a c).1 == (g.need a c).1) (some ((g.need a c).2 == (g.need a c).2, ()))))))))))) := by kernel_rfl
/-! ### They return true -/
theorem exec_small {i : Ins} {next : Int} {er : List Int} {r : Nv.Regs} (h1 : r.2.2.2.1.length ≤ 18) (h2 : r.2.2.2.2.1.length ≤ 18) (h3 : r.2.2.2.2.2.2.length ≤ 8) : smallR (Nv.exec i next er r).1 = true := by
  have sm : ∀ {g : Nv.Regs}, g.2.2.2.1.length ≤ 1000 → g.2.2.2.2.1.length ≤ 1000 → g.2.2.2.2.2.2.length ≤ 1000 → smallR g = true := fun a b c => by
    simp only [smallR, Bool.and_eq_true, decide_eq_true_eq]; omega
  have se : ∀ e, smallR (Nv.err e).1 = true := fun e => by show smallR Nv.regs0 = true; decide
  have hv : ∀ (m : Int) (a : Vc), (Nv.vals m a).length ≤ 3 := fun m a => by unfold Nv.vals; split <;> simp
  unfold Nv.exec
  simp only
  split
  · exact se _
  · split
    · exact se _
    · split
      · exact se _
      · split
        · refine sm ?_ ?_ ?_
          · simp only [Nv.result, Nv.popped, List.length_take]; omega
          · simp only [Nv.result, Nv.popped, List.length_take]; omega
          · simp only [Nv.result, Nv.popped]; omega
        · generalize (Nv.top r (Nv.form i.1).2.2.1 1 (Nv.top r (Nv.form i.1).2.1 0 0).2.1).2.1 = A
          generalize Nv.pops (Nv.form i.1).2.1 + Nv.pops (Nv.form i.1).2.2.1 = B
          have l1 : (Nv.popped r next A B).2.2.2.1.length ≤ 18 := by simp only [Nv.popped, List.length_take]; omega
          have l2 : (Nv.popped r next A B).2.2.2.2.1.length ≤ 18 := by simp only [Nv.popped, List.length_take]; omega
          have l3 : (Nv.popped r next A B).2.2.2.2.2.2.length ≤ 8 := h3
          generalize Nv.popped r next A B = h at *
          generalize Nv.held r.2.2.1 r.2.1 = a
          have hva := hv h.2.1 a
          have hh : smallR h = true := sm (by omega) (by omega) (by omega)
          unfold Nv.move
          split
          · exact hh
          · split
            · split
              · exact se _
              · refine sm ?_ ?_ ?_
                · simp only [List.length_append]; omega
                · simp only [List.length_append, List.length_cons, List.length_nil]; omega
                · simp only; omega
            · split
              · split
                · exact se _
                · refine sm ?_ ?_ ?_
                  · simp only; omega
                  · simp only; omega
                  · simp only [List.length_append, List.length_cons, List.length_nil]; omega
              · split
                · exact hh
                · split
                  · exact hh
                  · split
                    · exact hh
                    · exact hh
theorem step_small (code er : List Int) (r : Nv.Regs) : smallR (stepP code er r).1 = true := by
  unfold stepP
  cases hv : Nv.valid r with
  | false => show smallR Nv.regs0 = true; decide
  | true =>
    obtain ⟨_, _, v3, v4, v5⟩ := valid_iff.1 hv
    have hn := need_len r.2.2.2.2.1
    rw [if_pos rfl]
    split
    · show smallR Nv.regs0 = true; decide
    · exact exec_small (by omega) (by omega) (by omega)
theorem step_cells_len (code er : List Int) (r : Nv.Regs) : (stepP code er r).2.1.length ≤ 1000000000 := by
  by_cases h : (stepP code er r).2.2.2.2.1 = 0
  · have := (step_cells h).1; omega
  · rw [step_err h]; simp [Nv.err]
theorem same_true {a : Nv.Regs} (h : smallR a = true) : dSameR a a = true := by
  unfold dSameR
  rw [h, Bool.and_true]
  exact @decide_eq_true _ (Classical.propDecidable _) rfl
noncomputable def gZ : GZ := ⟨stepP, inOKb, dStep, runP, fun a b => inOKb a && inOKb b, needP, dNeed, fun _ _ => true, dSame, fun _ _ => true, dSameC, fun _ _ => true, dSameR⟩
theorem callZ_ok (R : Type) : CallsOK Tryz.prog (callZ gZ R) := callsE_ok tt_ok mixed names (fun f s hs => by
  unfold specsZ at hs
  split at hs
  · cases hs; exact specD_ok fn10N flat_bool (cntN 5 (by kernel_rfl))
  · cases hs; exact specL_ok fn13 (cntN 7 (by kernel_rfl))
  · cases hs; exact specL_ok fn8 (cntN 8 (by kernel_rfl))
  · cases hs; exact specL_ok m10.toT (cntN 10 (by kernel_rfl))
  · cases hs; exact specL_ok m15.toT (cntN 11 (by kernel_rfl))
  · cases hs; exact specL_ok fn12 (cntN 12 (by kernel_rfl))
  · cases hs; exact specL_ok fn13r (cntN 13 (by kernel_rfl))
  · cases hs; exact specD_ok m31 flatII (cntN 14 (by kernel_rfl))
  · cases hs; exact specD_ok k15 flatII (cntN 15 (by kernel_rfl))
  · cases hs; exact specL_ok m14.toT (cntN 16 (by kernel_rfl))
  · cases hs) 20
theorem askZ_eq {d v : Bool} {k : Bool → OZ} (h : d = true) : askZ d v k = k v := by subst h; rfl
theorem getZ_eq {α : Type} {d : Bool} {v : α} {k : α → OZ} (h : d = true) : getZ d v k = k v := by subst h; rfl
theorem andZ_eq {b : Bool} {k : OZ} (h : b = true) : andZ b k = k := by subst h; rfl
theorem ieq_self (a : Int) : (a == a) = true := by simp
theorem inOKb_of {l : List Int} (h : ∀ w ∈ l, 0 ≤ w ∧ w ≤ 65535) (hl : l.length ≤ 3000) : inOKb l = true := by
  simp only [inOKb, Bool.and_eq_true, List.all_eq_true, decide_eq_true_eq]
  exact ⟨fun w hw => h w hw, Nat.ble_eq_true_of_le (by omega)⟩
theorem lightZ_eq {a b : List Int} {k : OZ} (h : (a.length : Int) ≤ 2000 → (b.length : Int) ≤ 3000 → k = some (true, ())) : lightZ a b k = some (true, ()) := by
  unfold lightZ
  by_cases h1 : (a.length : Int) ≤ 2000
  · rw [decide_eq_true h1, cond_true]
    by_cases h2 : (b.length : Int) ≤ 3000
    · rw [decide_eq_true h2]; exact h h1 h2
    · rw [decide_eq_false h2]; rfl
  · rw [decide_eq_false h1]; rfl
theorem top3 (code er : List Int) (r : Nv.Regs) (hc : ∀ w ∈ code, 0 ≤ w ∧ w ≤ 65535) (he : ∀ w ∈ er, 0 ≤ w ∧ w ≤ 65535) (hr : wdR r = true) : e3 gZ code er r = some (true, ()) := by
  rw [e3_eq]
  refine lightZ_eq fun h1 h2 => ?_
  have c1 := inOKb_of hc (by omega)
  have c2 := inOKb_of he (by omega)
  have hd : dStep code er r = true := by simp only [dStep, Bool.and_eq_true]; exact ⟨c1, c2, hr⟩
  have hs := step_small code er r
  have hcells : dSameC (stepP code er r).2.1 (stepP code er r).2.1 = true := by
    simp only [dSameC, Bool.and_eq_true, decide_eq_true_eq]
    exact ⟨trivial, step_cells_len code er r⟩
  rw [getZ_eq (show gZ.dom code = true from c1), getZ_eq (show gZ.dStep code er r = true from hd), andZ_eq (ieq_self _), andZ_eq (ieq_self _), andZ_eq (ieq_self _), askZ_eq (show gZ.dSameC (gZ.step code er r).2.1 (gZ.step code er r).2.1 = true from hcells), andZ_eq (show gZ.sameC _ _ = true from rfl),
    askZ_eq (show gZ.dSameR (gZ.step code er r).1 (gZ.step code er r).1 = true from same_true hs), andZ_eq (show gZ.sameR _ _ = true from rfl),
    askZ_eq (show gZ.dSameR (r.1, 0, Nv.zero3, [], [], false, []) (r.1, 0, Nv.zero3, [], [], false, []) = true from same_true (by simp [smallR]))]
  rfl
theorem runK_small {code : List Int} : ∀ (k : Nat) (m : List Int) (g : Nv.Regs) (n : Int), smallR g = true → m.length ≤ 1000000000 → smallR (runK (stepP code) k m g n).2.1 = true ∧ (runK (stepP code) k m g n).1.length ≤ 1000000000
  | 0, m, g, n, h, hm => ⟨h, hm⟩
  | k + 1, m, g, n, h, hm => by
    have e0 : smallR (errF (stepP code m g).2.2.2.2.1).2.1 = true := by show smallR Nv.regs0 = true; decide
    have hl : (stCells m (stepP code m g).2.1).length ≤ 1000000000 := by rw [stCells_len]; exact hm
    simp only [runK]
    split
    · exact ⟨e0, by simp [errF]⟩
    · split
      · exact ⟨step_small code m g, hl⟩
      · exact runK_small k _ _ _ (step_small code m g) hl
theorem runP_small (code er : List Int) (at_ most : Int) : smallR (runP code er at_ most).2.1 = true ∧ (runP code er at_ most).1.length ≤ 1000000000 := by
  unfold runP
  split
  · exact ⟨by show smallR Nv.regs0 = true; decide, by simp [errF]⟩
  · exact runK_small _ _ _ _ (by simp [start, smallR]) (by rw [mem_len]; omega)
theorem top4 (code er : List Int) (at_ most : Int) (hc : ∀ w ∈ code, 0 ≤ w ∧ w ≤ 65535) (he : ∀ w ∈ er, 0 ≤ w ∧ w ≤ 65535) : e4 gZ code er at_ most = some (true, ()) := by
  rw [e4_eq]
  refine lightZ_eq fun h1 h2 => ?_
  have c1 := inOKb_of hc (by omega)
  have c2 := inOKb_of he (by omega)
  have hn : gZ.dNd code = true := by
    show dNeed code = true
    simp only [dNeed, c1, Bool.true_and, decide_eq_true_eq]; omega
  obtain ⟨s1, s2⟩ := runP_small code er at_ most
  have hw : dSame (runP code er at_ most).1 (runP code er at_ most).1 = true := by
    simp only [dSame, Bool.and_eq_true, decide_eq_true_eq]
    exact ⟨trivial, s2⟩
  rw [getZ_eq (show gZ.dom code = true from c1), getZ_eq (show gZ.dRun code er = true from Bool.and_eq_true_iff.2 ⟨c1, c2⟩), onlyT hn, onlyT hn, andZ_eq (ieq_self _), andZ_eq (ieq_self _), andZ_eq (ieq_self _), andZ_eq (ieq_self _),
    askZ_eq (show gZ.dSameW (gZ.run code er at_ most).1 (gZ.run code er at_ most).1 = true from hw), andZ_eq (show gZ.sameW _ _ = true from rfl),
    askZ_eq (show gZ.dSameR (gZ.run code er at_ most).2.1 (gZ.run code er at_ most).2.1 = true from same_true s1), andZ_eq (show gZ.sameR _ _ = true from rfl), andZ_eq (ieq_self _), ieq_self]
theorem cnt3 (fn : Func) (h : Tryz.prog.funcs[3]? = some fn) : fn.results.size = 1 := cntN 3 (by kernel_rfl) fn h
theorem cnt4 (fn : Func) (h : Tryz.prog.funcs[4]? = some fn) : fn.results.size = 1 := cntN 4 (by kernel_rfl) fn h
end Go.Pv
