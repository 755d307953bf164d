/-
  The ground of the proof, part 6: QuotientExact and ArithmeticExact return true: the join.
-/
import Derived.Test.YtchkmdhncgahbaaGreatDoorL5
/-! ### QuotientExact and ArithmeticExact return true: the join. -/
namespace Go.Pv.Dn
open Go.Proofs Go.Pv.Nn Go.Nv
set_option maxRecDepth 1000000
set_option exponentiation.threshold 20000
/-! ### QuotientExact -/
theorem mul29 (a : Db) : MulD (dyI 1 (-29)) (dyD a) = some (mulD (dyI 1 (-29)) (dyD a), 0, ()) := by
  have ha := Nv.V_in a
  unfold In at ha
  unfold dyD
  rw [MulD_ok ⟨by decide, by decide, by decide⟩ (smV a) (by decide) (by omega) ⟨by decide, by decide⟩, ← mulD_ok]
theorem mul57 (a : Db) : mulD (dyI 1 (-29)) (dyD a) = dyI (Nv.V a) (-57) := by unfold dyD; rw [mulD_ok]; congr 1; omega
theorem far_ok (q p a : Db) : DistD (mulD (dyD q) (dyD a)) (dyD p) = some (farD q p a, 0, ()) := by
  have hq := prod_le q a
  have hp := Nv.V_in p
  unfold In at hp
  have e4 : (2 ^ ((-28 : Int) - -56).toNat : Nat) = 268435456 := by decide
  rw [farD_eq, mul56]
  unfold dyD
  rw [DistD_ok (m := -56) ⟨by unfold B96; omega, by decide, by decide⟩ (smV p) (Int.le_refl _) (by decide) (by rw [p0, e4]; unfold B96; omega) ⟨by rw [p0, e4]; unfold B96; omega, by decide, by decide⟩, p0, e4]
  congr 4; omega
theorem room_ok (a : Db) : DistD (mulD (dyI 1 (-29)) (dyD a)) dyZ = some (roomD a, 0, ()) := by
  have ha := Nv.V_in a
  unfold In at ha
  rw [roomD_eq, mul57, show dyZ = dyI 0 (-57) from (dyI_zero _).symm]
  rw [DistD_ok (m := -57) ⟨by unfold B96; omega, by decide, by decide⟩ ⟨by decide, by decide, by decide⟩ (Int.le_refl _) (Int.le_refl _) (by rw [p0]; unfold B96; omega) ⟨by rw [p0]; unfold B96; omega, by decide, by decide⟩, p0]
  congr 4; omega
theorem ord_ok (q p a : Db) : CmpD (farD q p a) (roomD a) = some (cmpD (plusD (farD q p a) (negD (roomD a))), 0, ()) := by
  have hq := prod_le q a
  have hp := Nv.V_in p
  have ha := Nv.V_in a
  unfold In at hp ha
  have e4 : (2 ^ ((-56 : Int) - -57).toNat : Nat) = 2 := by decide
  rw [farD_eq, roomD_eq, CmpD_ok (m := -57) ⟨by unfold B96; omega, by decide, by decide⟩ ⟨by unfold B96; omega, by decide, by decide⟩ (by decide) (Int.le_refl _) (by rw [p0, e4]; unfold B96; omega)]
theorem W_neg {v : Int} (h : In v) : W (0 - v) = -v := by
  unfold In at h
  rw [W_small (by omega) (by omega)]; omega
theorem qu_form (p a : Db) : quF gl1 p a = (nx liD fun l _ => bif !l then some (false, ()) else
    nx (cpD (p, (0, 0), (0, 0)) (a, (0, 0), (0, 0)) 13) fun G ok => nx (ValD p) fun v _ => nx (ValD a) fun w _ =>
    bif !ok.1 then some (false, ()) else
    bif G.2.2.2.2.2.1 != decide ((if W (0 - v) > v then W (0 - v) else v) ≥ (if W (0 - w) > w then W (0 - w) else w)) then some (false, ()) else
    bif G.2.2.2.2.2.1 then some (true, ()) else
    nx (OfDbD G.2.2.1.1) fun q _ => nx (OfDbD a) fun b _ => nx (MulD q b) fun back e1 => nx (OfDbD p) fun c _ => nx (DistD back c) fun far e2 =>
    nx (OfD 1 (-29)) fun one e3 => nx (OfDbD a) fun b _ => nx (MulD one b) fun ro e4 => nx (DistD ro dyZ) fun room e5 => nx (CmpD far room) fun ord e6 =>
    bif e1.1 == 0 then bif e2.1 == 0 then bif e3.1 == 0 then bif e4.1 == 0 then bif e5.1 == 0 then bif e6.1 == 0 then some (decide (ord ≤ 0), ()) else some (false, ()) else some (false, ()) else some (false, ()) else some (false, ()) else some (false, ()) else some (false, ())) := by kernel_rfl
theorem qu_ok {p a : Db} (hp : Wp p) (ha : Wp a) : quF gl1 p a = some (true, ()) := by
  have hf := div_exact p a
  have hcn := cn_div p a
  generalize hqd : Nv.div p a = Q at hf hcn
  obtain ⟨q, ov⟩ := Q
  have hwq : Wp q := by
    obtain ⟨v, e, h⟩ := hcn
    change q = D v at e
    rw [e]; exact wp_D h
  rw [qu_form]
  rw [li_ok, nx_ok, Bool.not_true, cond_false, cp13]
  have eop : opD 13 (p, (0, 0), (0, 0)) (a, (0, 0), (0, 0)) = (q, ov) := hqd
  unfold ansR
  rw [eop, nx_ok, ValD_ok hp, nx_ok, ValD_ok ha, nx_ok, W_neg (Nv.V_in p), W_neg (Nv.V_in a)]
  show (bif ov != decide (mxI (Nv.V p) ≥ mxI (Nv.V a)) then some (false, ()) else bif ov then some (true, ()) else
    nx (OfDbD q) fun q _ => nx (OfDbD a) fun b _ => nx (MulD q b) fun back e1 => nx (OfDbD p) fun c _ => nx (DistD back c) fun far e2 =>
    nx (OfD 1 (-29)) fun one e3 => nx (OfDbD a) fun b _ => nx (MulD one b) fun ro e4 => nx (DistD ro dyZ) fun room e5 => nx (CmpD far room) fun ord e6 =>
    bif e1.1 == 0 then bif e2.1 == 0 then bif e3.1 == 0 then bif e4.1 == 0 then bif e5.1 == 0 then bif e6.1 == 0 then some (decide (ord ≤ 0), ()) else some (false, ()) else some (false, ()) else some (false, ()) else some (false, ()) else some (false, ()) else some (false, ())) = _
  unfold fineQ at hf
  rw [Bool.and_eq_true, beq_iff_eq] at hf
  obtain ⟨h1, h2⟩ := hf
  change ov = _ at h1
  rw [← h1, bne_self_eq_false, cond_false]
  cases ov with
  | true => rfl
  | false =>
    rw [if_neg (by simp)] at h2
    rw [cond_false, OfDbD_ok hwq, nx_ok, OfDbD_ok ha, nx_ok, mul_db, nx_ok, OfDbD_ok hp, nx_ok, far_ok, nx_ok, OfD_ok (by decide) (by decide) ⟨by decide, by decide⟩, nx_ok, nx_ok, mul29, nx_ok, room_ok, nx_ok, ord_ok, nx_ok]
    change decide (cmpD (plusD (farD q p a) (negD (roomD a))) ≤ 0) = true at h2
    show some (decide (cmpD (plusD (farD q p a) (negD (roomD a))) ≤ 0), ()) = _
    rw [h2]
/-! ### ArithmeticExact -/
theorem neg_fin {n : Int} (h : n.natAbs < 1152921504606846976) (x : Dy) (q : Db) (hq : Wp q) :
    (bif (dyI n (-28)).1 then nx (NegD (dyI n (-28))) (fun r e => taF gl1 x r (dyI 1 0) e.1 q) else taF gl1 x (dyI n (-28)) (dyI 1 0) 0 q)
      = some (decide (bigD (dyI n (-28)) ≥ 0) && (decide (Nv.V q = 268435455) || decide (Nv.V q = -268435455)) && (decide (Nv.V q < 0) == x.1), ()) := by
  have e3 : (2 ^ ((0 : Int) - -28).toNat : Nat) = 268435456 := by decide
  have hta : ∀ v : Int, v.natAbs = n.natAbs → taF gl1 x (dyI v (-28)) (dyI 1 0) 0 q = some (decide (cmpD (plusD (dyI v (-28)) (negD (dyI 1 0))) ≥ 0) && (decide (Nv.V q = 268435455) || decide (Nv.V q = -268435455)) && (decide (Nv.V q < 0) == x.1), ()) := by
    intro v hv
    unfold taF
    show (nx (CmpD (dyI v (-28)) (dyI 1 0)) fun o f => nx (ValD q) fun v _ =>
      bif (0 : Int) == 0 then bif f.1 == 0 then bif decide (o ≥ 0) then bif v == 268435455 then some (decide (v < 0) == x.1, ()) else bif v == -268435455 then some (decide (v < 0) == x.1, ()) else some (false, ()) else some (false, ()) else some (false, ()) else some (false, ())) = _
    rw [CmpD_ok (m := -28) ⟨by unfold B96; omega, by decide, by decide⟩ ⟨by decide, by decide, by decide⟩ (Int.le_refl _) (by decide) (by rw [p0, e3, show (1 : Int).natAbs = 1 from rfl]; unfold B96; omega), nx_ok, ValD_ok hq, nx_ok]
    generalize cmpD (plusD (dyI v (-28)) (negD (dyI 1 0))) = o
    generalize Nv.V q = w
    show (bif decide (o ≥ 0) then bif w == 268435455 then some (decide (w < 0) == x.1, ()) else bif w == -268435455 then some (decide (w < 0) == x.1, ()) else some (false, ()) else some (false, ())) = _
    by_cases h1 : o ≥ 0
    · rw [decide_eq_true h1, cond_true, Bool.true_and]
      by_cases h2 : w = 268435455
      · rw [decide_eq_true h2, show (w == 268435455) = true by simp [h2]]; rfl
      · rw [decide_eq_false h2, beq_eq_false_iff_ne.2 h2, cond_false]
        by_cases h3 : w = -268435455
        · rw [decide_eq_true h3, show (w == -268435455) = true by simp [h3]]; rfl
        · rw [decide_eq_false h3, beq_eq_false_iff_ne.2 h3]; rfl
    · rw [decide_eq_false h1]; rfl
  unfold bigD
  cases hb : (dyI n (-28)).1 with
  | true =>
    rw [cond_true, if_pos rfl, NegD_ok ⟨by unfold B96; omega, by decide, by decide⟩, nx_ok, negD_ok]
    exact hta (-n) (by omega)
  | false =>
    rw [cond_false, if_neg (by simp)]
    exact hta n rfl
theorem opA_cases (w : Int) (h0 : 0 ≤ w) (h1 : w < 256) : inRange (w.tmod 4) 4 = true ∧ (opA w = 10 ∨ opA w = 11 ∨ opA w = 12 ∨ opA w = 23) := by
  have e : w.tmod 4 = w % 4 := Int.tmod_eq_emod_of_nonneg h0
  unfold opA
  rw [e]
  have : w % 4 = 0 ∨ w % 4 = 1 ∨ w % 4 = 2 ∨ w % 4 = 3 := by omega
  rcases this with h | h | h | h <;> rw [h] <;> exact ⟨by decide, by decide⟩
/-- exact's answer, rounded: a number of doubles' size -/
theorem ex_form {p a : Vc} {op : Int} (h : op = 10 ∨ op = 11 ∨ op = 12 ∨ op = 23) : ∃ t n : Int, ∃ e : Int, exX op p a = dyI t e ∧ Sm t e ∧ roundD (exX op p a) 28 = dyI n (-28) ∧ n.natAbs < 1152921504606846976 := by
  have hp := Nv.V_in p.1
  have ha := Nv.V_in a.1
  unfold In at hp ha
  have h28 : ∀ t : Int, t.natAbs < 1152921504606846976 → exX op p a = dyI t (-28) → ∃ t n : Int, ∃ e : Int, exX op p a = dyI t e ∧ Sm t e ∧ roundD (exX op p a) 28 = dyI n (-28) ∧ n.natAbs < 1152921504606846976 := by
    intro t ht e
    exact ⟨t, t, -28, e, ⟨by unfold B96; omega, by decide, by decide⟩, by rw [e, round_sum], ht⟩
  have rqb : ∀ t : Int, t.natAbs < 1152921504606846976 → (rq t 268435456).natAbs < 1152921504606846976 := by
    intro t ht
    unfold rq rq0
    split
    · split <;> omega
    · split <;> omega
  have h56 : ∀ t : Int, t.natAbs < 1152921504606846976 → exX op p a = dyI t (-56) → ∃ t n : Int, ∃ e : Int, exX op p a = dyI t e ∧ Sm t e ∧ roundD (exX op p a) 28 = dyI n (-28) ∧ n.natAbs < 1152921504606846976 := by
    intro t ht e
    exact ⟨t, rq t 268435456, -56, e, ⟨by unfold B96; omega, by decide, by decide⟩, by rw [e, round_prod], rqb t ht⟩
  have h1 := prod_le p.1 a.1
  have h2 := prod_le p.2.1 a.2.1
  have h3 := prod_le p.2.2 a.2.2
  rcases h with rfl | rfl | rfl | rfl
  · refine h28 (Nv.V p.1 + Nv.V a.1) (by omega) ?_
    show plusD (dyD p.1) (dyD a.1) = _
    unfold dyD
    rw [plusD_ok (Int.le_refl _) (Int.le_refl _), p0]; congr 1; omega
  · refine h28 (Nv.V p.1 - Nv.V a.1) (by omega) ?_
    show plusD (dyD p.1) (negD (dyD a.1)) = _
    unfold dyD
    rw [negD_ok, plusD_ok (Int.le_refl _) (Int.le_refl _), p0]; congr 1; omega
  · exact h56 (Nv.V p.1 * Nv.V a.1) (by omega) (mul56 _ _)
  · exact h56 (Nv.dotV p a) (by unfold Nv.dotV; omega) (dotX_eq p a)
theorem op_fine {p a : Vc} {op : Int} (h : op = 10 ∨ op = 11 ∨ op = 12 ∨ op = 23) : fineA (opD op p a).1 (opD op p a).2 (exX op p a) (roundD (exX op p a) 28) = true ∧ Wp (opD op p a).1 := by
  rcases h with rfl | rfl | rfl | rfl
  · exact ⟨add_exact _ _, wp_D (Nv.cl_in _)⟩
  · exact ⟨sub_exact _ _, wp_D (Nv.cl_in _)⟩
  · exact ⟨mul_exact _ _, wp_D (Nv.cl_in _)⟩
  · exact ⟨dot_exact _ _, wp_D (Nv.cl_in _)⟩
theorem cp_all {p a : Vc} {op : Int} (h : op = 10 ∨ op = 11 ∨ op = 12 ∨ op = 23) : cpD p a op = ansR op p a := by
  rcases h with rfl | rfl | rfl | rfl
  · exact cp10 p a
  · exact cp11 p a
  · exact cp12 p a
  · exact cp23 p a
theorem ex_all {p a : Vc} (hp : Wv p) (ha : Wv a) {op : Int} (h : op = 10 ∨ op = 11 ∨ op = 12 ∨ op = 23) : exD p a op = some (exX op p a, true, ()) := by
  rcases h with rfl | rfl | rfl | rfl
  · exact ex_sc hp ha (.inl rfl)
  · exact ex_sc hp ha (.inr (.inl rfl))
  · exact ex_sc hp ha (.inr (.inr rfl))
  · exact ex23 hp ha
theorem ar_ok {p a : Vc} (hp : Wv p) (ha : Wv a) {w : Int} (h0 : 0 ≤ w) (h1 : w < 256) : arF gl1 p a w = some (true, ()) := by
  obtain ⟨hin, hop⟩ := opA_cases w h0 h1
  obtain ⟨t, n, e, e1, sm, e2, hn⟩ := ex_form (p := p) (a := a) hop
  obtain ⟨hfine, hw⟩ := op_fine (p := p) (a := a) hop
  unfold arF
  show (nx liD fun l _ => bif !l then some (false, ()) else bif inRange (w.tmod 4) 4 then
    nx (cpD p a (opA w)) fun G ok => nx (exD p a (opA w)) fun x xok => bif !ok.1 then some (false, ()) else bif !xok.1 then some (false, ()) else
    nx (RoundD x 28) fun r e => bif e.1 != 0 then some (false, ()) else
    bif !G.2.2.2.2.2.1 then nx (OfDbD G.2.2.1.1) fun d _ => nx (SameD d r) fun s _ => some (s, ()) else
    nx (OfD 1 0) fun one _ => bif r.1 then nx (NegD r) fun r e => taF gl1 x r one e.1 G.2.2.1.1 else taF gl1 x r one e.1 G.2.2.1.1
    else none) = _
  rw [li_ok, nx_ok, Bool.not_true, cond_false, hin, cond_true, cp_all hop]
  generalize opA w = op at *
  unfold ansR
  rw [nx_ok, ex_all hp ha hop, nx_ok]
  generalize hQ : opD op p a = Q at *
  obtain ⟨q, ov⟩ := Q
  have hr : RoundD (exX op p a) 28 = some (roundD (exX op p a) 28, 0, ()) := by rw [e1]; exact RoundD_ok sm
  show (nx (RoundD (exX op p a) 28) fun r e => bif e.1 != 0 then some (false, ()) else
    bif !ov then nx (OfDbD q) fun d _ => nx (SameD d r) fun s _ => some (s, ()) else
    nx (OfD 1 0) fun one _ => bif r.1 then nx (NegD r) fun r e => taF gl1 (exX op p a) r one e.1 q else taF gl1 (exX op p a) r one e.1 q) = _
  rw [hr, nx_ok]
  show (bif !ov then nx (OfDbD q) fun d _ => nx (SameD d (roundD (exX op p a) 28)) fun s _ => some (s, ()) else
    nx (OfD 1 0) fun one _ => bif (roundD (exX op p a) 28).1 then nx (NegD (roundD (exX op p a) 28)) fun r e => taF gl1 (exX op p a) r one e.1 q else taF gl1 (exX op p a) (roundD (exX op p a) 28) one 0 q) = _
  unfold fineA at hfine
  simp only at hfine hw
  cases ov with
  | false =>
    rw [if_neg (by simp), decide_eq_true_eq] at hfine
    rw [Bool.not_false, cond_true, OfDbD_ok hw, nx_ok, ← hfine]
    have := SameD_self (a := dyD q) (dy_len (smV q))
    rw [this, nx_ok]
  | true =>
    rw [if_pos rfl] at hfine
    rw [Bool.not_true, cond_false, OfD_ok (by decide) (by decide) ⟨by decide, by decide⟩, nx_ok]
    rw [e2] at hfine ⊢
    rw [neg_fin hn _ _ hw, hfine]
end Go.Pv.Dn
