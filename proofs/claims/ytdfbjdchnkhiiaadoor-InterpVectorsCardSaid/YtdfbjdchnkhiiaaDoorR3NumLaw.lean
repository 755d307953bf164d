/-
  Doubles: the functions are total, depend on values alone, and their results are canonical; so the law InterpScalars returns true.
-/
import Derived.Test.YtdfbjdchnkhiiaaDoorR3Num
namespace Go.Pv
open Go.Proofs
set_option maxRecDepth 1000000

theorem mw_eq (x : Int) : mw x = x % 32768 := by
  have h1 : (BitVec.ofInt 16 x &&& BitVec.ofInt 16 32767).toNat = (x % 65536).toNat % 32768 := by
    rw [BitVec.toNat_and, BitVec.toNat_ofInt, BitVec.toNat_ofInt]
    have e1 : ((32767 : Int) % ((2 ^ 16 : Nat) : Int)).toNat = 2 ^ 15 - 1 := by decide
    rw [e1, Nat.and_two_pow_sub_one_eq_mod]
    rfl
  have h2 : mw x = IntKind.u16.wrap (((BitVec.ofInt 16 x &&& BitVec.ofInt 16 32767).toNat : Nat) : Int) := rfl
  rw [h2, h1]
  unfold IntKind.wrap IntKind.bits IntKind.signed
  simp only [Bool.false_and]
  have e : (2 : Int) ^ 16 = 65536 := by decide
  rw [e]
  simp only [Bool.false_eq_true, if_false]
  omega

theorem wrap16 {n : Int} (h1 : 0 ≤ n) (h2 : n ≤ 65535) : IntKind.u16.wrap n = n := by
  unfold IntKind.wrap IntKind.bits IntKind.signed
  simp only [Bool.false_and]
  have e : (2 : Int) ^ 16 = 65536 := by decide
  rw [e]
  simp only [Bool.false_eq_true, if_false]
  omega
theorem wrap64 (n : Int) : IntKind.u64.wrap n = n % 18446744073709551616 := by
  unfold IntKind.wrap IntKind.bits IntKind.signed
  simp only [Bool.false_and]
  have e : (2 : Int) ^ 64 = 18446744073709551616 := by decide
  rw [e]
  simp only [Bool.false_eq_true, if_false]

theorem lo14_eq {m : Int} (h1 : 0 ≤ m) (h2 : m < 18446744073709551616) : lo14 m = m % 16384 := by
  have h3 : (BitVec.ofInt 64 m &&& BitVec.ofInt 64 16383).toNat = (m % 16384).toNat := by
    rw [BitVec.toNat_and, BitVec.toNat_ofInt, BitVec.toNat_ofInt]
    have e1 : ((16383 : Int) % ((2 ^ 64 : Nat) : Int)).toNat = 2 ^ 14 - 1 := by decide
    rw [e1, Nat.and_two_pow_sub_one_eq_mod]
    have e2 : ((2 ^ 64 : Nat) : Int) = 18446744073709551616 := by decide
    rw [e2]
    have e3 : (2 : Nat) ^ 14 = 16384 := by decide
    rw [e3]
    omega
  have h4 : lo14 m = IntKind.u16.wrap (IntKind.u64.wrap ((BitVec.ofInt 64 m &&& BitVec.ofInt 64 16383).toNat : Nat)) := rfl
  rw [h4, h3, wrap64, wrap16 (by omega) (by omega)]
  omega
theorem sh14_eq {m : Int} (h : 0 ≤ m) : sh14 m = m / 16384 := by
  have h2 : sh14 m = m.fdiv 16384 := rfl
  rw [h2, Int.fdiv_eq_ediv_of_nonneg _ (by decide)]

theorem wv_eq (x : Int) : wv x = if 16384 ≤ x % 32768 then x % 32768 - 32767 else x % 32768 := by
  unfold wv
  rw [mw_eq, w64_small (k := x % 32768) (by omega) (by omega), w64_small (k := x % 32768 - 32767) (by omega) (by omega)]
  by_cases h : 16384 ≤ x % 32768
  · rw [if_pos h, decide_eq_true (show x % 32768 ≥ 16384 from h)]; rfl
  · rw [if_neg h, decide_eq_false (show ¬ x % 32768 ≥ 16384 from h)]; rfl
theorem wv_range (x : Int) : -16383 ≤ wv x ∧ wv x ≤ 16383 := by
  rw [wv_eq]; split <;> omega
theorem Vd_eq (p : Db) : Vd p = wv p.1 * 16384 + wv p.2 := by
  have h1 := wv_range p.1; have h2 := wv_range p.2
  unfold Vd
  rw [w64_small (k := wv p.1 * 16384) (by omega) (by omega), w64_small (by omega) (by omega)]
theorem Vd_range (p : Db) : -268435455 ≤ Vd p ∧ Vd p ≤ 268435455 := by
  have h1 := wv_range p.1; have h2 := wv_range p.2
  rw [Vd_eq]; omega
theorem Vd_md (p : Db) : Vd (md p) = Vd p := by
  rw [Vd_eq, Vd_eq]
  have : ∀ x, wv (mw x) = wv x := fun x => by
    rw [wv_eq, wv_eq, mw_eq]
    have e : x % 32768 % 32768 = x % 32768 := by omega
    rw [e]
  simp only [md, this]
theorem Dd_eq {v : Int} (h1 : -268435455 ≤ v) (h2 : v ≤ 268435455) : Dd v = if v < 0 then (32767 - (-v) / 16384, 32767 - (-v) % 16384) else (v / 16384, v % 16384) := by
  unfold Dd dig dMag
  by_cases h : v < 0
  · rw [if_pos h, decide_eq_true h]
    have e : IntKind.u64.wrap (0 - IntKind.u64.wrap v) = -v := by rw [wrap64, wrap64]; omega
    simp only [cond_true, e]
    rw [sh14_eq (by omega), lo14_eq (m := -v) (by omega) (by omega), lo14_eq (m := -v / 16384) (by omega) (by omega), wrap16 (by omega) (by omega), wrap16 (by omega) (by omega)]
    have e2 : -v / 16384 % 16384 = -v / 16384 := by omega
    rw [e2]
  · rw [if_neg h, decide_eq_false h]
    have e : IntKind.u64.wrap v = v := by rw [wrap64]; omega
    simp only [cond_false, e]
    rw [sh14_eq (by omega), lo14_eq (m := v) (by omega) (by omega), lo14_eq (m := v / 16384) (by omega) (by omega)]
    have e2 : v / 16384 % 16384 = v / 16384 := by omega
    rw [e2]
theorem Vd_Dd {v : Int} (h1 : -268435455 ≤ v) (h2 : v ≤ 268435455) : Vd (Dd v) = v := by
  rw [Vd_eq, Dd_eq h1 h2]
  by_cases h : v < 0
  · rw [if_pos h]
    simp only
    rw [wv_eq, wv_eq]
    have e1 : (32767 - -v / 16384) % 32768 = 32767 - -v / 16384 := by omega
    have e2 : (32767 - -v % 16384) % 32768 = 32767 - -v % 16384 := by omega
    rw [e1, e2, if_pos (by omega), if_pos (by omega)]
    omega
  · rw [if_neg h]
    simp only
    rw [wv_eq, wv_eq]
    have e1 : (v / 16384) % 32768 = v / 16384 := by omega
    have e2 : (v % 16384) % 32768 = v % 16384 := by omega
    rw [e1, e2, if_neg (by omega), if_neg (by omega)]
    omega

/-! ### Total functions -/
def clampF (v : Int) : Int × Bool := bif decide (v > 268435455) then (268435455, true) else bif decide (v < -268435455) then (-268435455, true) else (v, false)
theorem clampK_eq {α : Type} (v : Int) (k : Int → Bool → Option α) : clampK v k = k (clampF v).1 (clampF v).2 := by
  unfold clampK clampF
  cases decide (v > 268435455)
  · cases decide (v < -268435455) <;> rfl
  · rfl
theorem clampF_range (v : Int) : -268435455 ≤ (clampF v).1 ∧ (clampF v).1 ≤ 268435455 := by
  unfold clampF
  by_cases h1 : v > 268435455
  · rw [decide_eq_true h1]; simp only [cond_true]; omega
  · rw [decide_eq_false h1]
    by_cases h2 : v < -268435455
    · rw [decide_eq_true h2]; simp only [cond_false, cond_true]; omega
    · rw [decide_eq_false h2]; simp only [cond_false]; omega
def dQ (p q : Int) : Bool := decide (-4611686018427387904 ≤ p) && decide (p ≤ 4611686018427387904) && decide (0 < q)
def dQ0 (p q : Int) : Bool := decide (0 ≤ p) && decide (p ≤ 4611686018427387904) && decide (0 < q)
def Qf (p q : Int) : Int := bif decide (p < 0) then w64 (0 - q0 (w64 (0 - p)) q) else q0 p q
def g0 : GV := ⟨Vd, Dd, Qf, dQ⟩

theorem cntN (f : FuncId) {n : Nat} (h : (Tryd.prog.funcs[f]?).map (fun fn => fn.results.size) = some n) (fn : Func) (hf : Tryd.prog.funcs[f]? = some fn) : fn.results.size = n := by
  rw [hf] at h; simpa using h
theorem flatD : ∀ s ∈ ([.agg tD] : Sig), s.flat = true := by intro s hs; simp at hs; subst hs; rfl
theorem flatDB : ∀ s ∈ ([.agg tD, .val .bool] : Sig), s.flat = true := by intro s hs; simp at hs; rcases hs with rfl | rfl <;> rfl

theorem q0K_in {p q : Int} (h : 0 < q) : q0K p q = some (q0 p q, ()) := by
  unfold q0K q0
  have : decide (q = 0) = false := decide_eq_false (by omega)
  rw [this]
  cases decide (p.tmod q ≥ w64 (q - p.tmod q)) <;> rfl
theorem fn49a : FnOK Tryd.prog 49 sII [.val tI] fun x => bif dQ0 x.1 x.2.1 then some (q0 x.1 x.2.1, ()) else none := fnSome fun x y h => by
  obtain ⟨p, q, ⟨⟩⟩ := x
  change (bif dQ0 p q then some (q0 p q, ()) else none) = some y at h
  cases hd : dQ0 p q with
  | false => rw [hd] at h; cases h
  | true =>
    rw [hd] at h
    simp only [dQ0, Bool.and_eq_true, decide_eq_true_eq] at hd
    refine ⟨callQ (fun _ _ => false) q0, fun R => callsE_ok tt_ok mixed names (fun f s hs => ?_) 20, [], ?_⟩
    · unfold specsQ at hs
      split at hs
      · cases hs; exact specD_ok (fun x y h => by cases h) flat_int (cntN 49 (by kernel_rfl))
      · cases hs
    · refine (e49_eq _ _ p q).trans ?_
      rw [decide_eq_false (by omega), cond_false, q0K_in hd.2]
      exact h
theorem fn49 : FnOK Tryd.prog 49 sII [.val tI] fun x => bif dQ x.1 x.2.1 then some (Qf x.1 x.2.1, ()) else none := fnSome fun x y h => by
  obtain ⟨p, q, ⟨⟩⟩ := x
  change (bif dQ p q then some (Qf p q, ()) else none) = some y at h
  cases hd : dQ p q with
  | false => rw [hd] at h; cases h
  | true =>
    rw [hd] at h
    simp only [dQ, Bool.and_eq_true, decide_eq_true_eq] at hd
    refine ⟨callQ dQ0 q0, fun R => callsE_ok tt_ok mixed names (fun f s hs => ?_) 20, [], ?_⟩
    · unfold specsQ at hs
      split at hs
      · cases hs; exact specD_ok fn49a flat_int (cntN 49 (by kernel_rfl))
      · cases hs
    · refine (e49_eq _ _ p q).trans ?_
      unfold Qf at h
      by_cases hp : p < 0
      · rw [decide_eq_true hp] at h ⊢
        have e : w64 (0 - p) = 0 - p := w64_small (by omega) (by omega)
        have hq : dQ0 (w64 (0 - p)) q = true := by
          have hp' : @LT.lt Int _ p 0 := hp
          rw [e]; simp only [dQ0, Bool.and_eq_true, decide_eq_true_eq]; omega
        show (bif dQ0 (w64 (0 - p)) q then some (w64 (0 - q0 (w64 (0 - p)) q), ()) else none) = some y
        rw [hq]
        exact h
      · rw [decide_eq_false hp] at h ⊢
        rw [cond_false, q0K_in hd.2]
        exact h
theorem fn47 : FnOK Tryd.prog 47 [.agg tD] [.val tI] fun x => bif true then some (Vd x.1, ()) else none := fnSome fun x y h => by
  obtain ⟨p, ⟨⟩⟩ := x
  exact ⟨_, callNo_ok, [], (eval47 p).trans h⟩
theorem fn53 : FnOK Tryd.prog 53 [.val tI] [.agg tD] fun x => bif true then some (Dd x.1, ()) else none := fnSome fun x y h => by
  obtain ⟨v, ⟨⟩⟩ := x
  exact ⟨_, callNo_ok, [], (eval53 v).trans h⟩
theorem callV'_ok (R : Type) : CallsOK Tryd.prog (callV' g0 R) := callsE_ok tt_ok mixed names (fun f s hs => by
  unfold specsNV at hs
  split at hs
  · cases hs; exact specD_ok fn47 flat_int (cntN 47 (by kernel_rfl))
  · cases hs; exact specD_ok fn53 flatD (cntN 53 (by kernel_rfl))
  · cases hs; exact specD_ok fn49 flat_int (cntN 49 (by kernel_rfl))
  · cases hs) 20

theorem mul_range {x y : Int} (hx : -268435455 ≤ x ∧ x ≤ 268435455) (hy : -268435455 ≤ y ∧ y ≤ 268435455) : -72057594037927936 ≤ x * y ∧ x * y ≤ 72057594037927936 := by
  have h := Int.natAbs_mul x y
  have h2 : x.natAbs * y.natAbs ≤ 268435455 * 268435455 := Nat.mul_le_mul (by omega) (by omega)
  omega
theorem mul_dom (p a : Db) : dQ (w64 (Vd p * Vd a)) 268435456 = true := by
  have h := mul_range (Vd_range p) (Vd_range a)
  rw [w64_small (by omega) (by omega)]
  simp only [dQ, Bool.and_eq_true, decide_eq_true_eq]; omega

def divO (p a : Db) : RD2 := bif decide (Vd a < 0) then divB g0 (w64 (0 - Vd p)) (w64 (0 - Vd a)) else divB g0 (Vd p) (Vd a)
/-- the answer is the canonical form of a value -/
def IsD (o : RD2) : Prop := ∃ v b, o = some (Dd v, b, ()) ∧ -268435455 ≤ v ∧ v ≤ 268435455
theorem divR_is (v : Int) : IsD (divR g0 v) := by
  unfold divR
  cases v == 0
  · cases decide (v < 0)
    · exact ⟨268435455, true, rfl, by decide, by decide⟩
    · exact ⟨-268435455, true, rfl, by decide, by decide⟩
  · exact ⟨0, true, by rw [Dd_eq (by decide) (by decide)]; rfl, by decide, by decide⟩
theorem divB_is {v w : Int} (hv : -268435455 ≤ v ∧ v ≤ 268435455) (hw : 0 ≤ w ∧ w ≤ 268435455) : IsD (divB g0 v w) := by
  unfold divB
  by_cases h1 : v < w
  · rw [decide_eq_true h1, cond_true]
    have e : w64 (0 - v) = 0 - v := w64_small (by omega) (by omega)
    rw [e]
    by_cases h2 : 0 - v < w
    · rw [decide_eq_true h2, cond_true]
      have hq : g0.dQ (w64 (v * 268435456)) w = true := by
        rw [w64_small (by omega) (by omega)]
        simp only [g0, dQ, Bool.and_eq_true, decide_eq_true_eq]; omega
      rw [hq]
      simp only [onlyN, cond_true]
      rw [clampK_eq]
      have := clampF_range (g0.Q (w64 (v * 268435456)) w)
      exact ⟨_, _, rfl, this.1, this.2⟩
    · rw [decide_eq_false h2, cond_false]; exact divR_is v
  · rw [decide_eq_false h1, cond_false]; exact divR_is v
theorem divO_is (p a : Db) : IsD (divO p a) := by
  have hp := Vd_range p; have ha := Vd_range a
  unfold divO
  by_cases h : Vd a < 0
  · rw [decide_eq_true h, cond_true, w64_small (by omega) (by omega), w64_small (by omega) (by omega)]
    exact divB_is (by omega) (by omega)
  · rw [decide_eq_false h, cond_false]
    exact divB_is hp (by omega)
def divF (p a : Db) : Db × Bool := match divO p a with
  | some y => (y.1, y.2.1)
  | none => ((0, 0), false)
theorem divF_eq (p a : Db) : divO p a = some ((divF p a).1, (divF p a).2, ()) := by
  obtain ⟨v, b, h, _⟩ := divO_is p a
  unfold divF
  rw [h]

def gN : GN := {
  canon := fun p => Dd (Vd p)
  add := fun p a => (Dd (clampF (w64 (Vd p + Vd a))).1, (clampF (w64 (Vd p + Vd a))).2)
  sub := fun p a => (Dd (clampF (w64 (Vd p - Vd a))).1, (clampF (w64 (Vd p - Vd a))).2)
  mul := fun p a => Dd (clampF (Qf (w64 (Vd p * Vd a)) 268435456)).1
  div := divF }

theorem fn30 : FnOK Tryd.prog 30 [.agg tD] [.agg tD] fun x => bif true then some (gN.canon x.1, ()) else none := fnSome fun x y h => by
  obtain ⟨p, ⟨⟩⟩ := x
  exact ⟨_, callV'_ok, [], (e30_eq g0 p).trans h⟩
theorem fn21 : FnOK Tryd.prog 21 sDD [.agg tD, .val .bool] fun x => bif true then some ((gN.add x.1 x.2.1).1, (gN.add x.1 x.2.1).2, ()) else none := fnSome fun x y h => by
  obtain ⟨p, a, ⟨⟩⟩ := x
  exact ⟨_, callV'_ok, [], (e21_eq g0 p a).trans ((clampK_eq _ _).trans h)⟩
theorem fn22 : FnOK Tryd.prog 22 sDD [.agg tD, .val .bool] fun x => bif true then some ((gN.sub x.1 x.2.1).1, (gN.sub x.1 x.2.1).2, ()) else none := fnSome fun x y h => by
  obtain ⟨p, a, ⟨⟩⟩ := x
  exact ⟨_, callV'_ok, [], (e22_eq g0 p a).trans ((clampK_eq _ _).trans h)⟩
theorem fn23 : FnOK Tryd.prog 23 sDD [.agg tD] fun x => bif true then some (gN.mul x.1 x.2.1, ()) else none := fnSome fun x y h => by
  obtain ⟨p, a, ⟨⟩⟩ := x
  refine ⟨_, callV'_ok, [], (e23_eq g0 p a).trans ?_⟩
  have : g0.dQ (w64 (g0.V p * g0.V a)) 268435456 = true := mul_dom p a
  rw [this]
  exact Eq.trans (clampK_eq (g0.Q (w64 (g0.V p * g0.V a)) 268435456) fun v _ => some (g0.D v, ())) h
theorem fn24 : FnOK Tryd.prog 24 sDD [.agg tD, .val .bool] fun x => bif true then some ((gN.div x.1 x.2.1).1, (gN.div x.1 x.2.1).2, ()) else none := fnSome fun x y h => by
  obtain ⟨p, a, ⟨⟩⟩ := x
  exact ⟨_, callV'_ok, [], (e24_eq g0 p a).trans ((divF_eq p a).trans h)⟩

/-! ### The law -/
theorem Vd_canon (p : Db) : Vd (gN.canon p) = Vd p := Vd_Dd (Vd_range p).1 (Vd_range p).2
theorem V_arg1 (p : Db) : Vd (arg1 gN p) = Vd p := by unfold arg1; rw [Vd_canon, Vd_canon, Vd_canon, Vd_md]
theorem V_arg2 (p : Db) : Vd (arg2 gN p) = Vd p := by unfold arg2; rw [Vd_canon, Vd_canon, Vd_md]
theorem canon_D {v : Int} (h1 : -268435455 ≤ v) (h2 : v ≤ 268435455) : gN.canon (gN.canon (Dd v)) = Dd v := by
  show Dd (Vd (Dd (Vd (Dd v)))) = Dd v
  rw [Vd_Dd h1 h2, Vd_Dd h1 h2]
theorem fin5_true {v : Int} (h1 : -268435455 ≤ v) (h2 : v ≤ 268435455) (b : Bool) : fin5 gN (Dd v, b) (Dd v, b) = some (true, ()) := by
  unfold fin5
  simp only [canon_D h1 h2, beq_self_eq_true, cond_true]

theorem fin_of {f : Db → Db → Db × Bool} (hf : ∀ p q a b, Vd p = Vd q → Vd a = Vd b → f p a = f q b) (hr : ∀ p a, ∃ v b, f p a = (Dd v, b) ∧ -268435455 ≤ v ∧ v ≤ 268435455) (p a : Db) :
    fin5 gN (f (arg1 gN p) (arg2 gN a)) (f p a) = some (true, ()) := by
  rw [hf _ p _ a (V_arg1 p) (V_arg2 a)]
  obtain ⟨v, b, h, h1, h2⟩ := hr p a
  rw [h]
  exact fin5_true h1 h2 b
theorem fin_add (p a : Db) : fin5 gN (gN.add (arg1 gN p) (arg2 gN a)) (gN.add p a) = some (true, ()) :=
  fin_of (f := gN.add) (fun p q a b h1 h2 => by simp only [gN, h1, h2]) (fun p a => ⟨_, _, rfl, (clampF_range _).1, (clampF_range _).2⟩) p a
theorem fin_sub (p a : Db) : fin5 gN (gN.sub (arg1 gN p) (arg2 gN a)) (gN.sub p a) = some (true, ()) :=
  fin_of (f := gN.sub) (fun p q a b h1 h2 => by simp only [gN, h1, h2]) (fun p a => ⟨_, _, rfl, (clampF_range _).1, (clampF_range _).2⟩) p a
theorem fin_mul (p a : Db) : fin5 gN (gN.mul (arg1 gN p) (arg2 gN a), false) (gN.mul p a, false) = some (true, ()) :=
  fin_of (f := fun p a => (gN.mul p a, false)) (fun p q a b h1 h2 => by simp only [gN, h1, h2]) (fun p a => ⟨_, _, rfl, (clampF_range _).1, (clampF_range _).2⟩) p a
theorem fin_div (p a : Db) : fin5 gN (gN.div (arg1 gN p) (arg2 gN a)) (gN.div p a) = some (true, ()) :=
  fin_of (f := gN.div) (fun p q a b h1 h2 => by
    show divF p a = divF q b
    unfold divF divO
    rw [h1, h2]) (fun p a => by
    obtain ⟨v, b, h, h1, h2⟩ := divO_is p a
    exact ⟨v, b, by show divF p a = _; unfold divF; rw [h], h1, h2⟩) p a
end Go.Pv
