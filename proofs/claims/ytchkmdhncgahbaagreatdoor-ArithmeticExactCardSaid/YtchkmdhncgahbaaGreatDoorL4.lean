/-
  The ground of the proof, part 4: Dyadic numbers on plain data: an integer times a power of 2, in its canonical form. Natural numbers: what the code of the small functions says, step by step, and what it comes to. (No program in sight: each loop's step is a hypothesis.). What a caller is told of a function with structured results whose slice arguments are lent (live slices inside structs are frozen); the results are live rows of flat data. Functions with a pointer to a variable of the caller's: what stands in it is typed data; the variable stays where it is. Functions whose first argument is a pointer to a variable of the caller's: by themselves, and what a caller is told of them. What a caller is told of a function that is handed a pointer to its variable: it is right. Functions that own their arguments' rows and maps: by themselves, and what a caller is told of them. Natural numbers: the program's functions as the code says it. Natural numbers: what the program's functions compute. The arithmetic of the navigation language on plain integers: values of doubles, rounding, roots, sines, vectors. One instruction of the navigation language, on plain data. Arithmetic against exact dyadic numbers, on plain data. Dyadic numbers: the program's functions as the code says it. Dyadic numbers: what the program's functions compute. The law InterpScalars, run with what is known of its callees. The law InterpVectors, run with what is known of its callees. Doubles: what the functions of layers 15 and 16 that the law needs compute.
-/
import Derived.Test.YtchkmdhncgahbaaGreatDoorL3
/-! ### Dyadic numbers on plain data: an integer times a power of 2, in its canonical form. -/
namespace Go.Nv
/-- negative, limbs of an odd number, exponent -/
abbrev Dy := Bool × List Int × Int
def dyZ : Dy := (false, [], 0)
def dyN (neg : Bool) (n : Nat) (e : Int) : Dy := if n = 0 then dyZ else (neg, lb (n / 2 ^ tz n), e + (tz n : Int))
def dyI (v e : Int) : Dy := dyN (decide (v < 0)) v.natAbs e
def si (neg : Bool) (n : Nat) : Int := if neg = true then -(n : Int) else (n : Int)
theorem si_self (v : Int) : si (decide (v < 0)) v.natAbs = v := by
  unfold si
  by_cases h : v < 0
  · rw [decide_eq_true h, if_pos rfl]; omega
  · rw [decide_eq_false h, if_neg (by simp)]; omega
theorem dyN_zero (neg : Bool) (e : Int) : dyN neg 0 e = dyZ := by unfold dyN; rw [if_pos rfl]
theorem dyI_si (neg : Bool) (n : Nat) (e : Int) : dyI (si neg n) e = dyN neg n e := by
  unfold dyI si
  by_cases h0 : n = 0
  · subst h0
    cases neg <;> simp [dyN_zero]
  · cases neg with
    | false =>
      rw [if_neg (by simp)]
      have h1 : ¬ (n : Int) < 0 := by omega
      rw [decide_eq_false h1, Int.natAbs_natCast]
    | true =>
      rw [if_pos rfl, decide_eq_true (show -(n : Int) < 0 by omega), Int.natAbs_neg, Int.natAbs_natCast]
theorem dyN_shift (neg : Bool) (n k : Nat) (e : Int) : dyN neg (n * 2 ^ k) e = dyN neg n (e + (k : Int)) := by
  by_cases h : n = 0
  · subst h; rw [Nat.zero_mul, dyN_zero, dyN_zero]
  · have hp := Nat.two_pow_pos k
    have hn : n * 2 ^ k ≠ 0 := Nat.mul_ne_zero h (by omega)
    unfold dyN
    rw [if_neg hn, if_neg h, tz_shift h]
    have e1 : n * 2 ^ k / 2 ^ (tz n + k) = n / 2 ^ tz n := by
      rw [Nat.pow_add]; exact Nat.mul_div_mul_right _ _ hp
    rw [e1, Int.natCast_add]
    congr 2; omega
theorem si_mul (neg : Bool) (n k : Nat) : si neg n * (k : Int) = si neg (n * k) := by
  unfold si
  cases neg with
  | false => rw [if_neg (by simp), if_neg (by simp), Int.natCast_mul]
  | true => rw [if_pos rfl, if_pos rfl, Int.natCast_mul, Int.neg_mul]
theorem dyI_shift (v e : Int) (k : Nat) : dyI (v * ((2 ^ k : Nat) : Int)) e = dyI v (e + (k : Int)) := by
  have h := si_self v
  rw [← h, si_mul, dyI_si, dyI_si, dyN_shift]
theorem dyI_zero (e : Int) : dyI 0 e = dyZ := by unfold dyI; exact dyN_zero _ _
/-- the odd part -/
def odd (n : Nat) : Nat := n / 2 ^ tz n
theorem odd_eq {n : Nat} (h : n ≠ 0) : odd n * 2 ^ tz n = n := by unfold odd; rw [Nat.mul_comm]; exact (tz_dig n h).2.2
theorem odd_odd {n : Nat} (h : n ≠ 0) : odd n % 2 = 1 := (tz_dig n h).2.1
theorem dyI_form {v : Int} (h : v ≠ 0) (e : Int) : dyI v e = (decide (v < 0), lb (odd v.natAbs), e + (tz v.natAbs : Int)) := by
  unfold dyI dyN odd; rw [if_neg (by omega)]
theorem lb_ne {n : Nat} (h : n ≠ 0) : lb n ≠ [] := fun e => h (lb_nil.1 e)
theorem odd_ne {n : Nat} (h : n ≠ 0) : odd n ≠ 0 := by have := odd_odd h; omega
/-! ### Sums -/
def alignD (x : Dy) (e : Int) : Nat := lval x.2.1 * 2 ^ (x.2.2 - e).toNat
def plusN (a b : Bool) (p q : Nat) (e : Int) : Dy := if a = b then dyN a (p + q) e else if p < q then dyN b (q - p) e else dyN a (p - q) e
def plusD (x y : Dy) : Dy := if x.2.1 = [] then y else if y.2.1 = [] then x else plusN x.1 y.1 (alignD x (min x.2.2 y.2.2)) (alignD y (min x.2.2 y.2.2)) (min x.2.2 y.2.2)
theorem plusN_si (a b : Bool) (p q : Nat) (e : Int) : plusN a b p q e = dyI (si a p + si b q) e := by
  unfold plusN
  by_cases h : a = b
  · subst h
    rw [if_pos rfl, ← dyI_si]
    congr 1
    unfold si; cases a <;> simp <;> omega
  · rw [if_neg h]
    by_cases h2 : p < q
    · rw [if_pos h2, ← dyI_si]
      congr 1
      unfold si; cases a <;> cases b <;> simp at h <;> simp <;> omega
    · rw [if_neg h2, ← dyI_si]
      congr 1
      unfold si; cases a <;> cases b <;> simp at h <;> simp <;> omega
theorem pow_split {a b : Nat} (h : b ≤ a) : (2 : Nat) ^ (a - b) * 2 ^ b = 2 ^ a := by rw [← Nat.pow_add]; congr 1; omega
theorem plusD_ok {v w e f m : Int} (h1 : m ≤ e) (h2 : m ≤ f) : plusD (dyI v e) (dyI w f) = dyI (v * ((2 ^ (e - m).toNat : Nat) : Int) + w * ((2 ^ (f - m).toNat : Nat) : Int)) m := by
  by_cases hv : v = 0
  · subst hv
    rw [dyI_zero, Int.zero_mul, Int.zero_add, dyI_shift]
    unfold plusD
    rw [if_pos (show dyZ.2.1 = [] from rfl)]
    congr 1; omega
  by_cases hw : w = 0
  · subst hw
    rw [dyI_zero, Int.zero_mul, Int.add_zero, dyI_shift]
    have e1 : m + ((e - m).toNat : Int) = e := by omega
    rw [e1]
    unfold plusD
    by_cases h : (dyI v e).2.1 = []
    · rw [if_pos h]
      rw [dyI_form hv] at h
      exact absurd h (lb_ne (odd_ne (by omega)))
    · rw [if_neg h, if_pos (show dyZ.2.1 = [] from rfl)]
  have nv : v.natAbs ≠ 0 := by omega
  have nw : w.natAbs ≠ 0 := by omega
  rw [dyI_form hv, dyI_form hw]
  unfold plusD
  rw [if_neg (lb_ne (odd_ne nv)), if_neg (lb_ne (odd_ne nw)), plusN_si]
  simp only
  generalize hm1 : min (e + (tz v.natAbs : Int)) (f + (tz w.natAbs : Int)) = m1
  have hmm : m ≤ m1 := by omega
  have hm1e : m1 ≤ e + (tz v.natAbs : Int) := by omega
  have hm1f : m1 ≤ f + (tz w.natAbs : Int) := by omega
  have key : ∀ (z g : Int), z.natAbs ≠ 0 → m ≤ g → m1 ≤ g + (tz z.natAbs : Int) → si (decide (z < 0)) (alignD (decide (z < 0), lb (odd z.natAbs), g + (tz z.natAbs : Int)) m1) * ((2 ^ (m1 - m).toNat : Nat) : Int) = z * ((2 ^ (g - m).toNat : Nat) : Int) := by
    intro z g hz hg hk
    have hself := si_self z
    rw [si_mul]
    conv => rhs; rw [← hself, si_mul]
    congr 1
    unfold alignD
    simp only [lval_lb]
    rw [Nat.mul_assoc, ← Nat.pow_add, show (g + (tz z.natAbs : Int) - m1).toNat + (m1 - m).toNat = tz z.natAbs + (g - m).toNat by omega, Nat.pow_add, ← Nat.mul_assoc, odd_eq hz]
  rw [← key v e nv h1 hm1e, ← key w f nw h2 hm1f, ← Int.add_mul, dyI_shift]
  congr 1; omega
/-! ### Products, signs -/
def mulD (x y : Dy) : Dy := dyN (x.1 != y.1) (lval x.2.1 * lval y.2.1) (x.2.2 + y.2.2)
theorem mulD_ok (v w e f : Int) : mulD (dyI v e) (dyI w f) = dyI (v * w) (e + f) := by
  by_cases hv : v = 0
  · subst hv
    rw [dyI_zero, Int.zero_mul, dyI_zero]
    unfold mulD dyZ
    simp only [lval, Nat.zero_mul]; exact dyN_zero _ _
  by_cases hw : w = 0
  · subst hw
    rw [dyI_zero, Int.mul_zero, dyI_zero]
    unfold mulD dyZ
    simp only [lval, Nat.mul_zero]; exact dyN_zero _ _
  have nv : v.natAbs ≠ 0 := by omega
  have nw : w.natAbs ≠ 0 := by omega
  rw [dyI_form hv, dyI_form hw]
  unfold mulD
  simp only [lval_lb]
  have e1 : v * w = si (decide (v < 0) != decide (w < 0)) (odd v.natAbs * odd w.natAbs * 2 ^ (tz v.natAbs + tz w.natAbs)) := by
    have e2 : odd v.natAbs * odd w.natAbs * 2 ^ (tz v.natAbs + tz w.natAbs) = v.natAbs * w.natAbs := by
      rw [Nat.pow_add]
      conv => rhs; rw [← odd_eq nv, ← odd_eq nw]
      generalize odd v.natAbs = a
      generalize odd w.natAbs = b
      generalize 2 ^ tz v.natAbs = c
      generalize 2 ^ tz w.natAbs = d
      rw [Nat.mul_assoc, Nat.mul_assoc, Nat.mul_left_comm b c d]
    rw [e2]
    conv => lhs; rw [← si_self v, ← si_self w]
    unfold si
    cases decide (v < 0) <;> cases decide (w < 0) <;> simp [Int.natCast_mul, Int.mul_neg, Int.neg_mul]
  rw [e1, dyI_si, dyN_shift, Int.natCast_add]
  congr 1; omega
def negD (x : Dy) : Dy := (!x.1 && !(x.2.1.length == 0), x.2.1, x.2.2)
theorem negD_ok (v e : Int) : negD (dyI v e) = dyI (-v) e := by
  by_cases hv : v = 0
  · subst hv; rw [Int.neg_zero, dyI_zero]; rfl
  · have nv : v.natAbs ≠ 0 := by omega
    rw [dyI_form hv, dyI_form (show -v ≠ 0 by omega), Int.natAbs_neg]
    unfold negD
    simp only
    have h1 : ((lb (odd v.natAbs)).length == 0) = false := beq_eq_false_iff_ne.2 fun h => lb_ne (odd_ne nv) (List.eq_nil_of_length_eq_zero h)
    rw [h1, Bool.not_false, Bool.and_true]
    congr 1
    by_cases h : v < 0
    · have h2 : ¬ -v < 0 := by omega
      rw [decide_eq_true h, decide_eq_false h2]; rfl
    · rw [decide_eq_false h, decide_eq_true (show -v < 0 by omega)]; rfl
theorem absD_ok (v e : Int) : (false, (dyI v e).2.1, (dyI v e).2.2) = dyI (v.natAbs : Int) e := by
  by_cases hv : v = 0
  · subst hv; simp only [Int.natAbs_zero]; rw [show ((0 : Nat) : Int) = 0 from rfl, dyI_zero]; rfl
  · rw [dyI_form hv, dyI_form (show (v.natAbs : Int) ≠ 0 by omega), Int.natAbs_natCast]
    have h2 : ¬ (v.natAbs : Int) < 0 := by omega
    rw [decide_eq_false h2]
theorem dyI_nil {v e : Int} : (dyI v e).2.1 = [] ↔ v = 0 := by
  constructor
  · intro h
    by_cases hv : v = 0
    · exact hv
    · rw [dyI_form hv] at h
      exact absurd h (lb_ne (odd_ne (by omega)))
  · rintro rfl; rw [dyI_zero]; rfl
theorem dyI_neg {v e : Int} (h : v ≠ 0) : (dyI v e).1 = decide (v < 0) := by rw [dyI_form h]
/-- -1, 0 or 1 -/
def cmpD (x : Dy) : Int := if x.2.1.length = 0 then 0 else if x.1 = true then -1 else 1
theorem cmpD_ok (v e : Int) : cmpD (dyI v e) = if v = 0 then 0 else if v < 0 then -1 else 1 := by
  unfold cmpD
  by_cases h : v = 0
  · rw [if_pos h, if_pos (by rw [dyI_nil.2 h]; rfl)]
  · rw [if_neg h, if_neg (fun h' => h (dyI_nil.1 (List.eq_nil_of_length_eq_zero h'))), dyI_neg h]
    by_cases h2 : v < 0
    · rw [if_pos h2, if_pos (decide_eq_true h2)]
    · rw [if_neg h2, if_neg (by simpa using h2)]
/-! ### Rounding -/
def rndN (n d : Nat) : Nat := n / 2 ^ d + n / 2 ^ (d - 1) % 2
def roundD (x : Dy) (k : Int) : Dy := if -k - x.2.2 ≤ 0 ∨ x.2.1.length = 0 then x else dyN x.1 (rndN (lval x.2.1) (-k - x.2.2).toNat) (-k)
theorem roundD_ok {v e k : Int} {d : Nat} (hd : 0 < d) (he : -k - e = (d : Int)) : roundD (dyI v e) k = dyI (si (decide (v < 0)) (rndN v.natAbs d)) (-k) := by
  by_cases hv : v = 0
  · subst hv
    rw [dyI_zero]
    unfold roundD
    rw [if_pos (.inr rfl), dyI_si]
    have : rndN (0 : Int).natAbs d = 0 := by unfold rndN; simp
    rw [this, dyN_zero]
  · have nv : v.natAbs ≠ 0 := by omega
    rw [dyI_form hv, dyI_si]
    unfold roundD
    simp only [lval_lb]
    obtain ⟨t1, t2, t3⟩ := tz_dig v.natAbs nv
    have ho := odd_eq nv
    have hlen : ¬ (lb (odd v.natAbs)).length = 0 := fun h => lb_ne (odd_ne nv) (List.eq_nil_of_length_eq_zero h)
    by_cases hs : d ≤ tz v.natAbs
    · rw [if_pos (.inl (by omega))]
      have e1 : rndN v.natAbs d = odd v.natAbs * 2 ^ (tz v.natAbs - d) := by
        unfold rndN
        rw [t1 (d - 1) (by omega), Nat.add_zero]
        conv => lhs; rw [← ho]
        have : 2 ^ tz v.natAbs = 2 ^ (tz v.natAbs - d) * 2 ^ d := (pow_split hs).symm
        rw [this, ← Nat.mul_assoc, Nat.mul_div_cancel _ (Nat.two_pow_pos d)]
      rw [e1, dyN_shift]
      unfold dyN
      have hodd := odd_odd nv
      rw [if_neg (odd_ne nv), tz_odd hodd]
      simp only [Nat.pow_zero, Nat.div_one]
      congr 2
      omega
    · have hno : ¬ (-k - (e + (tz v.natAbs : Int)) ≤ 0 ∨ (lb (odd v.natAbs)).length = 0) := by
        rintro (h | h)
        · omega
        · exact hlen h
      rw [if_neg hno]
      congr 1
      have e1 : (-k - (e + (tz v.natAbs : Int))).toNat = d - tz v.natAbs := by omega
      rw [e1]
      unfold rndN odd
      rw [Nat.div_div_eq_div_mul, Nat.div_div_eq_div_mul, ← Nat.pow_add, ← Nat.pow_add, show tz v.natAbs + (d - tz v.natAbs) = d by omega, show tz v.natAbs + (d - tz v.natAbs - 1) = d - 1 by omega]
end Go.Nv
/-! ### Natural numbers: what the code of the small functions says, step by step, and what it comes to. (No program in sight: each loop's step is a hypothesis.) -/
namespace Go.Pv.Nn
open Go.Nv
def W (n : Int) : Int := IntKind.i64.wrap n
def U (n : Int) : Int := IntKind.u64.wrap n
def H (n : Int) : Int := IntKind.u32.wrap n
theorem W_small {k : Int} (h1 : -9000000000000000000 ≤ k) (h2 : k ≤ 9223372036854775807) : W k = k := by
  unfold W IntKind.wrap IntKind.bits IntKind.signed
  simp only [Bool.true_and]
  have e : (2 : Int) ^ 64 = 18446744073709551616 := by decide
  have e2 : (2 : Int) ^ (64 - 1) = 9223372036854775808 := by decide
  rw [e, e2]
  simp only [decide_eq_true_eq]
  split <;> omega
theorem U_mod (k : Int) : U k = k % 18446744073709551616 := by
  unfold U IntKind.wrap IntKind.bits IntKind.signed
  simp only [Bool.false_and, Bool.false_eq_true, if_false]
  have e : (2 : Int) ^ 64 = 18446744073709551616 := by decide
  rw [e]
theorem H_mod (k : Int) : H k = k % 4294967296 := by
  unfold H IntKind.wrap IntKind.bits IntKind.signed
  simp only [Bool.false_and, Bool.false_eq_true, if_false]
  have e : (2 : Int) ^ 32 = 4294967296 := by decide
  rw [e]
theorem U_small {k : Int} (h1 : 0 ≤ k) (h2 : k ≤ 18446744073709551615) : U k = k := by rw [U_mod]; omega
theorem inRn {i n : Nat} (h : i < n) : inRange (i : Int) n = true := by simp [inRange]; omega
def appN {α β : Type} (l : List α) (k : List α → Option β) : Option β := bif decide (l.length ≤ maxRow) then k l else none
theorem appN_ok {α β : Type} {l : List α} {k : List α → Option β} (h : l.length ≤ 1000000000) : appN l k = k l := by
  unfold appN; rw [decide_eq_true (show l.length ≤ maxRow from h), cond_true]
abbrev L := List Int
abbrev OL := Option (L × Unit)
abbrev OLI := Option (L × Int × Unit)
abbrev OI := Option (Int × Unit)
/-- what a call answers, handed on -/
def onL (o : OL) : OL := match o with
  | none => none
  | some y => some (y.1, ())
def onLI (o : OLI) : OLI := match o with
  | none => none
  | some y => some (y.1, y.2.1, ())
theorem onL_eq (o : OL) : onL o = o := by cases o <;> rfl
theorem onLI_eq (o : OLI) : onLI o = o := by cases o <;> rfl
/-! ### trim -/
abbrev XT := L × Int × Unit
def trimS (a : L) (n : Int) : Option (XT ⊕ (XT ⊕ Unit)) :=
  bif decide (n > 0) then bif inRange (W (n - 1)) a.length then bif a.getD (W (n - 1)).toNat 0 == 0 then some (.inl (a, W (n - 1), ())) else some (.inr (.inl (a, n, ()))) else none else some (.inr (.inl (a, n, ())))
noncomputable def trimF (S : XT → Option (XT ⊕ (XT ⊕ Unit))) (a : L) : OL := match lim S (a, (a.length : Int), ()) with
  | none => none
  | some (.inl y) => bif decide (0 ≤ y.2.1) && decide (y.2.1 ≤ (y.1.length : Int)) then some (sliceFz y.1 0 (some y.2.1.toNat), ()) else none
  | some (.inr _) => none
theorem trim_loop {S : XT → Option (XT ⊕ (XT ⊕ Unit))} (hS : ∀ a n, S (a, n, ()) = trimS a n) {a : L} (hl : a.length ≤ 1000000000) : ∀ k j : Nat, (ltrim a).length + k = j → j ≤ a.length → lim S (a, (j : Int), ()) = some (.inl (a, ((ltrim a).length : Int), ()))
  | 0, j, h, hj => by
    refine lim_end ?_
    have ej : j = (ltrim a).length := by omega
    rw [hS]; unfold trimS
    by_cases h0 : j = 0
    · have hno : ¬ (j : Int) > 0 := by omega
      rw [decide_eq_false hno, cond_false, ej]
    · have e1 : W ((j : Int) - 1) = ((j - 1 : Nat) : Int) := by rw [W_small (by omega) (by omega)]; omega
      have hl := ltrim_last a (by omega)
      rw [← ej] at hl
      rw [decide_eq_true (show (j : Int) > 0 by omega), cond_true, e1, inRn (by omega), cond_true, Int.toNat_natCast, beq_eq_false_iff_ne.2 hl, cond_false, ej]
  | k + 1, j, h, hj => by
    have e1 : W ((j : Int) - 1) = ((j - 1 : Nat) : Int) := by rw [W_small (by omega) (by omega)]; omega
    have hz := ltrim_zero a (j - 1) (by omega)
    have hs : S (a, (j : Int), ()) = some (.inl (a, ((j - 1 : Nat) : Int), ())) := by
      rw [hS]; unfold trimS
      rw [decide_eq_true (show (j : Int) > 0 by omega), cond_true, e1, inRn (by omega), cond_true, Int.toNat_natCast, hz]; rfl
    rw [lim_next hs]
    exact trim_loop hS hl k (j - 1) (by omega) (by omega)
theorem trimF_ok {S : XT → Option (XT ⊕ (XT ⊕ Unit))} (hS : ∀ a n, S (a, n, ()) = trimS a n) {a : L} (hl : a.length ≤ 1000000000) : trimF S a = some (ltrim a, ()) := by
  unfold trimF
  have hle := ltrim_le a
  rw [trim_loop hS hl (a.length - (ltrim a).length) a.length (by omega) (Nat.le_refl _)]
  simp only
  rw [decide_eq_true (show (0 : Int) ≤ ((ltrim a).length : Int) by omega), decide_eq_true (show ((ltrim a).length : Int) ≤ (a.length : Int) by omega), Int.toNat_natCast]
  unfold sliceFz
  simp only [Bool.and_self, cond_true, List.drop_zero, ltrim_take]
/-! ### Bits -/
def bl (n : Nat) : Nat := if h : n = 0 then 0 else bl (n / 2) + 1
termination_by n
decreasing_by omega
theorem bl_zero : bl 0 = 0 := by rw [bl]; simp
theorem bl_pos {n : Nat} (h : n ≠ 0) : bl n = bl (n / 2) + 1 := by rw [bl]; simp [h]
theorem bl_le : ∀ (k n : Nat), n < 2 ^ k → bl n ≤ k
  | 0, n, h => by have : n = 0 := by simpa using h
                  subst this; rw [bl_zero]; omega
  | k + 1, n, h => by
    by_cases h0 : n = 0
    · subst h0; rw [bl_zero]; omega
    · rw [bl_pos h0]
      have := bl_le k (n / 2) (by rw [Nat.pow_succ] at h; omega)
      omega
abbrev XB := Int × Int × Unit
def bitsS (n top : Int) : Option (XB ⊕ ((Int × Unit) ⊕ Unit)) := bif decide (top > 0) then some (.inl (W (n + 1), top.fdiv 2, ())) else some (.inr (.inl (n, ())))
noncomputable def bitsF (trimO : L → OL) (S : XB → Option (XB ⊕ ((Int × Unit) ⊕ Unit))) (a : L) : OI := match trimO a with
  | none => none
  | some y => bif (y.1.length : Int) == 0 then some (0, ()) else bif inRange (W ((y.1.length : Int) - 1)) y.1.length then (match lim S (W (32 * W ((y.1.length : Int) - 1)), y.1.getD (W ((y.1.length : Int) - 1)).toNat 0, ()) with
    | none => none
    | some (.inl z) => some (z.1, ())
    | some (.inr _) => none) else none
def bitsV (l : L) : Nat := if (ltrim l).length = 0 then 0 else 32 * ((ltrim l).length - 1) + bl ((ltrim l).getD ((ltrim l).length - 1) 0).toNat
theorem bits_loop {S : XB → Option (XB ⊕ ((Int × Unit) ⊕ Unit))} (hS : ∀ n t, S (n, t, ()) = bitsS n t) : ∀ (t n : Nat), n + bl t ≤ 100000000000 → lim S ((n : Int), (t : Int), ()) = some (.inl (((n + bl t : Nat) : Int), ())) := by
  intro t
  induction t using Nat.strongRecOn with
  | _ t ih =>
    intro n hn
    by_cases h0 : t = 0
    · subst h0
      refine lim_end ?_
      rw [hS]; unfold bitsS
      rw [decide_eq_false (show ¬ ((0 : Nat) : Int) > 0 by omega), cond_false, bl_zero, Nat.add_zero]
    · rw [bl_pos h0] at hn ⊢
      have hs : S ((n : Int), (t : Int), ()) = some (.inl (((n + 1 : Nat) : Int), ((t / 2 : Nat) : Int), ())) := by
        rw [hS]; unfold bitsS
        rw [decide_eq_true (show (t : Int) > 0 by omega), cond_true, W_small (by omega) (by omega), Int.fdiv_eq_ediv_of_nonneg _ (by decide)]; rfl
      rw [lim_next hs, ih (t / 2) (by omega) (n + 1) (by omega)]
      congr 4; omega
theorem limb_ltrim {l : L} (h : Limb l) : Limb (ltrim l) := by rw [← ltrim_take l]; exact limb_take h _
theorem bitsF_ok {trimO : L → OL} {S : XB → Option (XB ⊕ ((Int × Unit) ⊕ Unit))} (hS : ∀ n t, S (n, t, ()) = bitsS n t) {a : L} (ha : Limb a) (hl : a.length ≤ 1000000) (ht : trimO a = some (ltrim a, ())) : bitsF trimO S a = some ((bitsV a : Int), ()) := by
  unfold bitsF bitsV
  rw [ht]
  simp only
  have hle := ltrim_le a
  by_cases h0 : (ltrim a).length = 0
  · rw [show (((ltrim a).length : Int) == 0) = true by simp [h0], cond_true, if_pos h0]; rfl
  · have hg := limb_getD (limb_ltrim ha) ((ltrim a).length - 1)
    have hb := bl_le 32 ((ltrim a).getD ((ltrim a).length - 1) 0).toNat (by show _ < 4294967296; omega)
    have e1 : W (((ltrim a).length : Int) - 1) = (((ltrim a).length - 1 : Nat) : Int) := by rw [W_small (by omega) (by omega)]; omega
    have e2 : W (32 * (((ltrim a).length - 1 : Nat) : Int)) = ((32 * ((ltrim a).length - 1) : Nat) : Int) := by rw [W_small (by omega) (by omega)]; omega
    have e3 : (ltrim a).getD ((ltrim a).length - 1) 0 = (((ltrim a).getD ((ltrim a).length - 1) 0).toNat : Int) := by omega
    rw [beq_eq_false_iff_ne.2 (show ((ltrim a).length : Int) ≠ 0 by omega), cond_false, e1, inRn (by omega), cond_true, e2, Int.toNat_natCast, if_neg h0]
    have hb2 := bits_loop hS ((ltrim a).getD ((ltrim a).length - 1) 0).toNat (32 * ((ltrim a).length - 1)) (by omega)
    rw [← e3] at hb2
    rw [hb2]
theorem bitsV_le {l : L} (h : Limb l) : bitsV l ≤ 32 * (ltrim l).length := by
  unfold bitsV
  split
  · omega
  · have hg := limb_getD (limb_ltrim h) ((ltrim l).length - 1)
    have hb := bl_le 32 ((ltrim l).getD ((ltrim l).length - 1) 0).toNat (by show _ < 4294967296; omega)
    omega
theorem bitsV_zero {l : L} (h : Limb l) : bitsV l = 0 ↔ ltrim l = [] := by
  unfold bitsV
  constructor
  · intro e
    by_cases h0 : (ltrim l).length = 0
    · exact List.eq_nil_of_length_eq_zero h0
    · rw [if_neg h0] at e
      have hl := ltrim_last l h0
      have hg := limb_getD (limb_ltrim h) ((ltrim l).length - 1)
      have e2 : (ltrim l).getD ((ltrim l).length - 1) 0 = l.getD ((ltrim l).length - 1) 0 := by
        conv => lhs; rw [← ltrim_take l]
        simp only [List.getD_eq_getElem?_getD, List.getElem?_take]
        rw [if_pos (by rw [ltrim_take]; omega), ltrim_take]
      rw [e2] at e hg
      rw [bl_pos (by omega)] at e
      omega
  · intro e; rw [e]; rfl
/-! ### limit, Norm, Of -/
noncomputable def limitF (trimO : L → OL) (bitsO : L → OI) (a : L) : OLI := match trimO a with
  | none => none
  | some y => match bitsO y.1 with
    | none => none
    | some b => bif decide (b.1 > 32768) then some ([], 4, ()) else some (y.1, 0, ())
theorem limitF_ok {trimO : L → OL} {bitsO : L → OI} {a : L} (ha : Limb a) (hl : (ltrim a).length ≤ 1020) (ht : trimO a = some (ltrim a, ())) (hb : bitsO (ltrim a) = some ((bitsV (ltrim a) : Int), ())) : limitF trimO bitsO a = some (ltrim a, 0, ()) := by
  unfold limitF
  rw [ht]; simp only
  rw [hb]; simp only
  have h1 := bitsV_le (limb_ltrim ha)
  have h2 := ltrim_le (ltrim a)
  have hno : ¬ (bitsV (ltrim a) : Int) > 32768 := by omega
  rw [decide_eq_false hno]; rfl
noncomputable def normF (trimO : L → OL) (a : L) : OL := match trimO a with
  | none => none
  | some y => appN y.1 fun l => some (l, ())
noncomputable def ofF (trimO : L → OL) (n : Int) : OL := onL (trimO [H n, H (n.fdiv 4294967296)])
/-! ### limbs -/
def limbK {α : Type} (a : L) (i : Int) (k : Int → Option α) : Option α := bif decide (i < (a.length : Int)) then bif inRange i a.length then k (U (a.getD i.toNat 0)) else none else k 0
theorem limbK_ok {α : Type} {a : L} (ha : Limb a) (i : Nat) (k : Int → Option α) : limbK a (i : Int) k = k (a.getD i 0) := by
  unfold limbK
  have hg := limb_getD ha i
  by_cases h : i < a.length
  · rw [decide_eq_true (show (i : Int) < (a.length : Int) by omega), inRn h, cond_true, cond_true, Int.toNat_natCast, U_small (by omega) (by omega)]
  · have hno : ¬ (i : Int) < (a.length : Int) := by omega
    rw [decide_eq_false hno, cond_false, show a.getD i 0 = 0 by simp [List.getD, show a.length ≤ i by omega]]
/-! ### Add -/
abbrev XA := L × L × Int × L × Int × Int × Unit
abbrev YA := L × Int × Unit
def addS (a b : L) (n : Int) (o : L) (c i : Int) : Option (XA ⊕ (YA ⊕ Unit)) :=
  bif decide (i < n) then limbK a i fun x => limbK b i fun y => appN (o ++ [H (U (c + U (x + y)))]) fun o => some (.inl (a, b, n, o, (U (c + U (x + y))).fdiv 4294967296, W (i + 1), ())) else some (.inr (.inl (o, c, ())))
def mxL (a b : Int) : Int := if b > a then b else a
noncomputable def addF (limO : L → OLI) (S : XA → Option (XA ⊕ (YA ⊕ Unit))) (a b : L) : OLI :=
  bif decide ((0 : Int) ≤ 0) && decide ((0 : Int) ≤ W (mxL (a.length : Int) (b.length : Int) + 1)) && decide (W (mxL (a.length : Int) (b.length : Int) + 1) ≤ (maxRow : Int)) then
    (match lim S (a, b, mxL (a.length : Int) (b.length : Int), [], 0, 0, ()) with
    | none => none
    | some (.inl y) => appN (y.1 ++ [H y.2.1]) fun l => onLI (limO l)
    | some (.inr _) => none) else none
theorem add_loop {S : XA → Option (XA ⊕ (YA ⊕ Unit))} (hS : ∀ a b n o c i, S (a, b, n, o, c, i, ()) = addS a b n o c i) {a b : L} (ha : Limb a) (hb : Limb b) {n : Nat} (hn : n ≤ 1000000) : ∀ (k i : Nat) (o : L) (c : Int), i + k = n → o.length = i → 0 ≤ c → c ≤ 1 →
    lim S (a, b, (n : Int), o, c, (i : Int), ()) = some (.inl ((addC a b k i c o).1, (addC a b k i c o).2, ()))
  | 0, i, o, c, h, _, _, _ => by
    refine lim_end ?_
    rw [hS]; unfold addS
    rw [decide_eq_false (show ¬ (i : Int) < (n : Int) by omega), cond_false]; rfl
  | k + 1, i, o, c, h, ho, h0, h1 => by
    have ga := limb_getD ha i
    have gb := limb_getD hb i
    have hs : S (a, b, (n : Int), o, c, (i : Int), ()) = some (.inl (a, b, (n : Int), o ++ [(c + (a.getD i 0 + b.getD i 0)) % 4294967296], (c + (a.getD i 0 + b.getD i 0)) / 4294967296, ((i + 1 : Nat) : Int), ())) := by
      rw [hS]; unfold addS
      rw [decide_eq_true (show (i : Int) < (n : Int) by omega), cond_true, limbK_ok ha, limbK_ok hb, U_small (show 0 ≤ a.getD i 0 + b.getD i 0 by omega) (by omega), U_small (show 0 ≤ c + (a.getD i 0 + b.getD i 0) by omega) (by omega), H_mod,
        appN_ok (by rw [List.length_append]; simp only [List.length_cons, List.length_nil]; omega), W_small (by omega) (by omega), Int.fdiv_eq_ediv_of_nonneg _ (by decide)]; rfl
    rw [lim_next hs]
    exact add_loop hS ha hb hn k (i + 1) _ _ (by omega) (by simp [ho]) (by omega) (by omega)
theorem addF_ok {limO : L → OLI} {S : XA → Option (XA ⊕ (YA ⊕ Unit))} (hS : ∀ a b n o c i, S (a, b, n, o, c, i, ()) = addS a b n o c i) {a b : L} (ha : Limb a) (hb : Limb b) (la : a.length ≤ 1000) (lb' : b.length ≤ 1000)
    (hl : ∀ l, Limb l → l.length ≤ 1010 → limO l = some (ltrim l, 0, ())) : addF limO S a b = some (lb (lval a + lval b), 0, ()) := by
  unfold addF
  have e0 : ∃ n : Nat, mxL (a.length : Int) (b.length : Int) = (n : Int) ∧ a.length ≤ n ∧ b.length ≤ n ∧ n ≤ 1000 := by
    refine ⟨max a.length b.length, ?_, by omega, by omega, by omega⟩
    unfold mxL; split <;> omega
  obtain ⟨n, e1, h1, h2, h3⟩ := e0
  rw [e1, W_small (show -9000000000000000000 ≤ (n : Int) + 1 by omega) (by omega), decide_eq_true (Int.le_refl 0), decide_eq_true (show (0 : Int) ≤ (n : Int) + 1 by omega), decide_eq_true (show (n : Int) + 1 ≤ (maxRow : Int) by show (n : Int) + 1 ≤ 1000000000; omega)]
  simp only [Bool.and_self, cond_true]
  have hlp := add_loop hS ha hb (show n ≤ 1000000 by omega) n 0 [] 0 (Nat.zero_add _) rfl (Int.le_refl _) (by decide)
  have hlp' : lim S (a, b, (n : Int), [], 0, 0, ()) = _ := hlp
  rw [hlp']
  obtain ⟨k1, k2, k3⟩ := addC_val ha hb h1 h2
  obtain ⟨_, _, c0, c1, _⟩ := addC_ok ha hb n 0 0 [] (Int.le_refl _) (by decide) Limb.nil rfl
  simp only
  have eh : H (addC a b n 0 0 []).2 = (addC a b n 0 0 []).2 := by rw [H_mod]; omega
  have len : ((addC a b n 0 0 []).1 ++ [(addC a b n 0 0 []).2]).length ≤ 1010 := by rw [List.length_append, k3]; simp only [List.length_cons, List.length_nil]; omega
  rw [eh, appN_ok (by omega), onLI_eq, hl _ k1 len, ltrim_lb k1, k2]
/-! ### Sub -/
abbrev XS := L × L × L × L × Int × Int × Unit
abbrev YS := L × Unit
def subS (a x0 b o : L) (c i : Int) : Option (XS ⊕ (YS ⊕ Unit)) :=
  bif decide (i < (a.length : Int)) then limbK x0 i fun x => limbK b i fun y => appN (o ++ [H (U (U (U (4294967296 + x) - y) - c))]) fun o => some (.inl (a, x0, b, o, U (1 - (U (U (U (4294967296 + x) - y) - c)).fdiv 4294967296), W (i + 1), ())) else some (.inr (.inl (o, ())))
noncomputable def subF (cmpO : L → L → OI) (limO : L → OLI) (S : XS → Option (XS ⊕ (YS ⊕ Unit))) (a b : L) : OLI := match cmpO a b with
  | none => none
  | some z => bif decide (z.1 < 0) then some ([], 2, ()) else
    bif decide ((0 : Int) ≤ 0) && decide ((0 : Int) ≤ (a.length : Int)) && decide ((a.length : Int) ≤ (maxRow : Int)) then
    (match lim S (a, a, b, [], 0, 0, ()) with
    | none => none
    | some (.inl y) => onLI (limO y.1)
    | some (.inr _) => none) else none
theorem sub_loop {S : XS → Option (XS ⊕ (YS ⊕ Unit))} (hS : ∀ a x b o c i, S (a, x, b, o, c, i, ()) = subS a x b o c i) {a b : L} (ha : Limb a) (hb : Limb b) (hn : a.length ≤ 1000000) : ∀ (k i : Nat) (o : L) (c : Int), i + k = a.length → o.length = i → 0 ≤ c → c ≤ 1 →
    lim S (a, a, b, o, c, (i : Int), ()) = some (.inl ((subC a b k i c o).1, ()))
  | 0, i, o, c, h, _, _, _ => by
    refine lim_end ?_
    rw [hS]; unfold subS
    rw [decide_eq_false (show ¬ (i : Int) < (a.length : Int) by omega), cond_false]; rfl
  | k + 1, i, o, c, h, ho, h0, h1 => by
    have ga := limb_getD ha i
    have gb := limb_getD hb i
    have hs : S (a, a, b, o, c, (i : Int), ()) = some (.inl (a, a, b, o ++ [(4294967296 + a.getD i 0 - b.getD i 0 - c) % 4294967296], 1 - (4294967296 + a.getD i 0 - b.getD i 0 - c) / 4294967296, ((i + 1 : Nat) : Int), ())) := by
      rw [hS]; unfold subS
      rw [decide_eq_true (show (i : Int) < (a.length : Int) by omega), cond_true, limbK_ok ha, limbK_ok hb, U_small (show 0 ≤ 4294967296 + a.getD i 0 by omega) (by omega), U_small (show 0 ≤ 4294967296 + a.getD i 0 - b.getD i 0 by omega) (by omega), U_small (show 0 ≤ 4294967296 + a.getD i 0 - b.getD i 0 - c by omega) (by omega), H_mod,
        appN_ok (by rw [List.length_append]; simp only [List.length_cons, List.length_nil]; omega), W_small (by omega) (by omega), Int.fdiv_eq_ediv_of_nonneg _ (by decide), U_small (by omega) (by omega)]; rfl
    rw [lim_next hs]
    exact sub_loop hS ha hb hn k (i + 1) _ _ (by omega) (by simp [ho]) (by omega) (by omega)
theorem subF_ok {cmpO : L → L → OI} {limO : L → OLI} {S : XS → Option (XS ⊕ (YS ⊕ Unit))} (hS : ∀ a x b o c i, S (a, x, b, o, c, i, ()) = subS a x b o c i) {a b : L} (ha : Limb a) (hb : Limb b) (la : a.length ≤ 1000) (hba : b.length ≤ a.length)
    (hv : lval b ≤ lval a) (hc : cmpO a b = some (cmpN (lval a) (lval b), ())) (hl : ∀ l, Limb l → l.length ≤ 1010 → limO l = some (ltrim l, 0, ())) : subF cmpO limO S a b = some (lb (lval a - lval b), 0, ()) := by
  unfold subF
  rw [hc]
  have hno : ¬ cmpN (lval a) (lval b) < 0 := by unfold cmpN; rw [if_neg (by omega)]; split <;> decide
  simp only
  rw [decide_eq_false hno, cond_false, decide_eq_true (Int.le_refl 0), decide_eq_true (show (0 : Int) ≤ (a.length : Int) by omega), decide_eq_true (show (a.length : Int) ≤ (maxRow : Int) by show (a.length : Int) ≤ 1000000000; omega)]
  simp only [Bool.and_self, cond_true]
  have hlp := sub_loop hS ha hb (by omega) a.length 0 [] 0 (Nat.zero_add _) rfl (Int.le_refl _) (by decide)
  have hlp' : lim S (a, a, b, [], 0, 0, ()) = _ := hlp
  rw [hlp']
  obtain ⟨k1, k2, k3⟩ := subC_val ha hb hba hv
  simp only
  rw [onLI_eq, hl _ k1 (by omega), ltrim_lb k1, k2]
/-! ### Cmp -/
abbrev XC := L × L × Int × Unit
def cmpS (a b : L) (i : Int) : Option (XC ⊕ (Unit ⊕ (Int × Unit))) :=
  bif decide (i ≥ 0) then limbK a i fun x => limbK b i fun y => bif decide (x < y) then some (.inr (.inr (-1, ()))) else limbK a i fun x => limbK b i fun y => bif decide (x > y) then some (.inr (.inr (1, ()))) else some (.inl (a, b, W (i - 1), ())) else some (.inr (.inl ()))
noncomputable def cmpF (S : XC → Option (XC ⊕ (Unit ⊕ (Int × Unit)))) (a b : L) : OI := match lim S (a, b, W (mxL (a.length : Int) (b.length : Int) - 1), ()) with
  | none => none
  | some (.inl _) => some (0, ())
  | some (.inr y) => some (y.1, ())
def cmpR (e : Int) : Unit ⊕ (Int × Unit) := if e = 0 then .inl () else .inr (e, ())
theorem cmp_loop {S : XC → Option (XC ⊕ (Unit ⊕ (Int × Unit)))} (hS : ∀ a b i, S (a, b, i, ()) = cmpS a b i) {a b : L} (ha : Limb a) (hb : Limb b) : ∀ i : Nat, i ≤ 1000000 → lim S (a, b, (i : Int) - 1, ()) = some (cmpR (cmpC a b i))
  | 0, _ => by
    refine lim_end ?_
    rw [hS]; unfold cmpS
    rw [decide_eq_false (show ¬ ((0 : Nat) : Int) - 1 ≥ 0 by omega), cond_false]; rfl
  | i + 1, h => by
    have e : ((i + 1 : Nat) : Int) - 1 = (i : Int) := by omega
    rw [e]
    simp only [cmpC]
    have hst : S (a, b, (i : Int), ()) = bif decide (a.getD i 0 < b.getD i 0) then some (.inr (.inr (-1, ()))) else bif decide (a.getD i 0 > b.getD i 0) then some (.inr (.inr (1, ()))) else some (.inl (a, b, (i : Int) - 1, ())) := by
      rw [hS]; unfold cmpS
      rw [decide_eq_true (show (i : Int) ≥ 0 by omega), cond_true, limbK_ok ha, limbK_ok hb, limbK_ok ha, limbK_ok hb, W_small (by omega) (by omega)]
    by_cases h1 : a.getD i 0 < b.getD i 0
    · refine lim_end ?_
      rw [hst, decide_eq_true h1, if_pos h1]; rfl
    · by_cases h2 : a.getD i 0 > b.getD i 0
      · refine lim_end ?_
        rw [hst, decide_eq_false h1, decide_eq_true h2, if_neg h1, if_pos h2]; rfl
      · rw [if_neg h1, if_neg h2]
        rw [decide_eq_false h1, decide_eq_false h2, cond_false, cond_false] at hst
        rw [lim_next hst]
        exact cmp_loop hS ha hb i (by omega)
theorem cmpF_ok {S : XC → Option (XC ⊕ (Unit ⊕ (Int × Unit)))} (hS : ∀ a b i, S (a, b, i, ()) = cmpS a b i) {a b : L} (ha : Limb a) (hb : Limb b) (la : a.length ≤ 1000) (lb' : b.length ≤ 1000) : cmpF S a b = some (cmpN (lval a) (lval b), ()) := by
  unfold cmpF
  obtain ⟨n, e1, h1, h2, h3⟩ : ∃ n : Nat, mxL (a.length : Int) (b.length : Int) = (n : Int) ∧ a.length ≤ n ∧ b.length ≤ n ∧ n ≤ 1000 := by
    refine ⟨max a.length b.length, ?_, by omega, by omega, by omega⟩
    unfold mxL; split <;> omega
  rw [e1, W_small (by omega) (by omega), cmp_loop hS ha hb n (by omega), cmpC_ok ha hb n (by rw [List.drop_eq_nil_of_le h1, List.drop_eq_nil_of_le h2])]
  unfold cmpR
  by_cases h0 : cmpN (lval a) (lval b) = 0
  · rw [if_pos h0, h0]
  · rw [if_neg h0]
/-! ### Shr -/
def or64 (a b : Int) : Int := U (BitVec.ofInt IntKind.u64.bits a ||| BitVec.ofInt IntKind.u64.bits b).toNat
/-- a count of a shift -/
def cnt (b : Int) : Nat := min b.toNat 64
theorem or_add {x y s : Nat} (hx : x < 2 ^ s) (h64 : x + y * 2 ^ s < 18446744073709551616) : or64 (x : Int) ((y * 2 ^ s : Nat) : Int) = ((x + y * 2 ^ s : Nat) : Int) := by
  unfold or64
  have e1 : (BitVec.ofInt 64 (x : Int) ||| BitVec.ofInt 64 ((y * 2 ^ s : Nat) : Int)).toNat = x + y * 2 ^ s := by
    rw [BitVec.toNat_or, BitVec.toNat_ofInt, BitVec.toNat_ofInt]
    have q1 : ((x : Int) % ((2 ^ 64 : Nat) : Int)).toNat = x := by
      have : (2 : Nat) ^ 64 = 18446744073709551616 := by decide
      rw [this]; omega
    have q2 : (((y * 2 ^ s : Nat) : Int) % ((2 ^ 64 : Nat) : Int)).toNat = y * 2 ^ s := by
      have : (2 : Nat) ^ 64 = 18446744073709551616 := by decide
      rw [this]; omega
    rw [q1, q2, Nat.or_comm, Nat.mul_comm, Nat.add_comm, Nat.two_pow_add_eq_or_of_lt hx]
  show U ((BitVec.ofInt 64 (x : Int) ||| BitVec.ofInt 64 ((y * 2 ^ s : Nat) : Int)).toNat : Nat) = _
  rw [e1, U_small (by omega) (by omega)]
theorem or_add' {x y s : Nat} (hx : x < 2 ^ s) (h64 : x + y * 2 ^ s < 18446744073709551616) : or64 ((y * 2 ^ s : Nat) : Int) (x : Int) = ((x + y * 2 ^ s : Nat) : Int) := by
  rw [← or_add hx h64]
  unfold or64
  rw [BitVec.or_comm]
abbrev XR := L × Int × L × L × Int × Unit
abbrev YR := L × Unit
def shrS (a : L) (n : Int) (x0 o : L) (i : Int) : Option (XR ⊕ (YR ⊕ Unit)) :=
  bif decide (i < (a.length : Int)) then limbK x0 i fun x => limbK x0 (W (i + 1)) fun y => bif decide (n.tmod 32 < 0) then none else appN (o ++ [H ((or64 x (U (y * 4294967296))).fdiv (2 ^ cnt (n.tmod 32)))]) fun o => some (.inl (a, n, x0, o, W (i + 1), ())) else some (.inr (.inl (o, ())))
noncomputable def shrF (limO : L → OLI) (S : XR → Option (XR ⊕ (YR ⊕ Unit))) (a : L) (n : Int) : OLI :=
  bif decide (n < 0) then some ([], 2, ()) else bif decide (W (n.tdiv 32) ≥ (a.length : Int)) then some ([], 0, ()) else
    bif decide ((0 : Int) ≤ 0) && decide ((0 : Int) ≤ W ((a.length : Int) - W (n.tdiv 32))) && decide (W ((a.length : Int) - W (n.tdiv 32)) ≤ (maxRow : Int)) then
    (match lim S (a, n, a, [], W (n.tdiv 32), ()) with
    | none => none
    | some (.inl y) => onLI (limO y.1)
    | some (.inr _) => none) else none
theorem p32 (s : Nat) : ((2 : Int) ^ s) = ((2 ^ s : Nat) : Int) := by simp
theorem shr_loop {S : XR → Option (XR ⊕ (YR ⊕ Unit))} (hS : ∀ a n x o i, S (a, n, x, o, i, ()) = shrS a n x o i) {a : L} (ha : Limb a) (hl : a.length ≤ 1000) {n : Nat} (hn : n ≤ 1000000) : ∀ (k i : Nat) (o : L), i + k = a.length → o.length ≤ i →
    lim S (a, (n : Int), a, o, (i : Int), ()) = some (.inl (o ++ shrC (n % 32) (a.drop i), ()))
  | 0, i, o, h, _ => by
    refine lim_end ?_
    rw [hS]; unfold shrS
    rw [decide_eq_false (show ¬ (i : Int) < (a.length : Int) by omega), cond_false, List.drop_eq_nil_of_le (by omega)]
    simp only [shrC, List.append_nil]
  | k + 1, i, o, h, ho => by
    have hi : i < a.length := by omega
    have gx := limb_getD ha i
    have gy := limb_getD ha (i + 1)
    obtain ⟨xn, hx⟩ := Int.eq_ofNat_of_zero_le gx.1
    obtain ⟨yn, hy⟩ := Int.eq_ofNat_of_zero_le gy.1
    have em : ((n : Int).tmod 32) = ((n % 32 : Nat) : Int) := by rw [Int.tmod_eq_emod_of_nonneg (by omega)]; omega
    have ec : cnt ((n % 32 : Nat) : Int) = n % 32 := by unfold cnt; rw [Int.toNat_natCast]; omega
    have hs : S (a, (n : Int), a, o, (i : Int), ()) = some (.inl (a, (n : Int), a, o ++ [(a.getD i 0 + a.getD (i + 1) 0 * 4294967296) / 2 ^ (n % 32) % 4294967296], ((i + 1 : Nat) : Int), ())) := by
      rw [hS]; unfold shrS
      have e1 : W ((i : Int) + 1) = ((i + 1 : Nat) : Int) := by rw [W_small (by omega) (by omega)]; rfl
      have hno : ¬ ((n % 32 : Nat) : Int) < 0 := by omega
      rw [decide_eq_true (show (i : Int) < (a.length : Int) by omega), cond_true, e1, limbK_ok ha, limbK_ok ha, em, decide_eq_false hno, cond_false, ec, hx, hy]
      have e2 : U ((yn : Int) * 4294967296) = ((yn * 2 ^ 32 : Nat) : Int) := by
        have q : (2 : Nat) ^ 32 = 4294967296 := by decide
        rw [q, U_small (by omega) (by omega)]; omega
      have e3 : (2 : Nat) ^ 32 = 4294967296 := by decide
      rw [e2, or_add (s := 32) (by omega) (by rw [e3]; omega), H_mod, p32, Int.fdiv_eq_ediv_of_nonneg _ (Int.natCast_nonneg _),
        appN_ok (by rw [List.length_append]; simp only [List.length_cons, List.length_nil]; omega)]
      rw [e3]
      have e4 : ((xn + yn * 4294967296 : Nat) : Int) = (xn : Int) + (yn : Int) * 4294967296 := by omega
      rw [e4]
    rw [lim_next hs, shr_loop hS ha hl hn k (i + 1) _ (by omega) (by simp; omega), List.append_assoc]
    have e5 : shrC (n % 32) (a.drop i) = ((a.getD i 0 + a.getD (i + 1) 0 * 4294967296) / 2 ^ (n % 32) % 4294967296) :: shrC (n % 32) (a.drop (i + 1)) := by
      rw [List.drop_eq_getElem_cons hi]
      simp only [shrC]
      congr 4
      · simp [List.getD, hi]
      · simp [List.getD, List.getElem?_drop]
    rw [e5]; rfl
theorem shrF_ok {limO : L → OLI} {S : XR → Option (XR ⊕ (YR ⊕ Unit))} (hS : ∀ a n x o i, S (a, n, x, o, i, ()) = shrS a n x o i) {a : L} (ha : Limb a) (hla : a.length ≤ 1000) {n : Nat} (hn : n ≤ 1000000)
    (hl : ∀ l, Limb l → l.length ≤ 1010 → limO l = some (ltrim l, 0, ())) : shrF limO S a (n : Int) = some (lb (lval a / 2 ^ n), 0, ()) := by
  unfold shrF
  have hno : ¬ (n : Int) < 0 := by omega
  have e1 : W ((n : Int).tdiv 32) = ((n / 32 : Nat) : Int) := by rw [Int.tdiv_eq_ediv_of_nonneg (by omega), W_small (by omega) (by omega)]; omega
  rw [decide_eq_false hno, cond_false, e1]
  obtain ⟨k1, k2⟩ := shr_val ha n
  by_cases h : n / 32 ≥ a.length
  · rw [decide_eq_true (show ((n / 32 : Nat) : Int) ≥ (a.length : Int) by omega), cond_true]
    rw [List.drop_eq_nil_of_le h] at k2
    have : lval a / 2 ^ n = 0 := by rw [← k2]; rfl
    rw [this, lb_zero]
  · have e2 : W ((a.length : Int) - ((n / 32 : Nat) : Int)) = (a.length : Int) - ((n / 32 : Nat) : Int) := W_small (by omega) (by omega)
    rw [decide_eq_false (show ¬ ((n / 32 : Nat) : Int) ≥ (a.length : Int) by omega), cond_false, e2, decide_eq_true (Int.le_refl 0), decide_eq_true (show (0 : Int) ≤ (a.length : Int) - ((n / 32 : Nat) : Int) by omega), decide_eq_true (show (a.length : Int) - ((n / 32 : Nat) : Int) ≤ (maxRow : Int) by show _ ≤ (1000000000 : Int); omega)]
    simp only [Bool.and_self, cond_true]
    rw [shr_loop hS ha hla hn (a.length - n / 32) (n / 32) [] (by omega) (Nat.zero_le _)]
    simp only [List.nil_append]
    have hlen := (shrC_ok (s := n % 32) (Nat.mod_lt _ (by decide)) (limb_drop ha (n / 32))).2.2
    rw [List.length_drop] at hlen
    rw [onLI_eq, hl _ k1 (by omega), ltrim_lb k1, k2]
/-! ### Shl -/
abbrev XL := Int × L × Int × Int × L × Int × Unit
abbrev YL := Int × L × Unit
def shlS (n : Int) (l : L) (m c : Int) (o : L) (i : Int) : Option (XL ⊕ (YL ⊕ Unit)) :=
  bif decide (i < m) then bif inRange i l.length then bif decide (n.tmod 32 < 0) then none else appN (o ++ [H (or64 c (U (U (l.getD i.toNat 0) * 2 ^ cnt (n.tmod 32))))]) fun o =>
    some (.inl (n, l, m, (or64 c (U (U (l.getD i.toNat 0) * 2 ^ cnt (n.tmod 32)))).fdiv 4294967296, o, W (i + 1), ())) else none else some (.inr (.inl (c, o, ())))
noncomputable def shlF (trimO : L → OL) (bitsO : L → OI) (limO : L → OLI) (S : XL → Option (XL ⊕ (YL ⊕ Unit))) (a : L) (n : Int) : OLI :=
  bif decide (n < 0) then some ([], 2, ()) else match trimO a with
  | none => none
  | some t => bif (t.1.length : Int) == 0 then some ([], 0, ()) else bif decide (n > 32768) then some ([], 4, ()) else match bitsO t.1 with
    | none => none
    | some b => bif decide (b.1 > W (32768 - n)) then some ([], 4, ()) else
      bif decide ((0 : Int) ≤ W (n.tdiv 32)) && decide (W (n.tdiv 32) ≤ W (W (W (n.tdiv 32) + (t.1.length : Int)) + 1)) && decide (W (W (W (n.tdiv 32) + (t.1.length : Int)) + 1) ≤ (maxRow : Int)) then
      (match lim S (n, t.1, (t.1.length : Int), 0, List.replicate (W (n.tdiv 32)).toNat 0, 0, ()) with
      | none => none
      | some (.inl y) => appN (y.2.1 ++ [H y.1]) fun l => onLI (limO l)
      | some (.inr _) => none) else none
theorem shl_loop {S : XL → Option (XL ⊕ (YL ⊕ Unit))} (hS : ∀ n l m c o i, S (n, l, m, c, o, i, ()) = shlS n l m c o i) {l : L} (hl : Limb l) (hll : l.length ≤ 1000) {n : Nat} (hn : n ≤ 1000000) : ∀ (k i : Nat) (c : Int) (o : L), i + k = l.length → o.length ≤ 100000 + i → 0 ≤ c → c < 2 ^ (n % 32) →
    lim S ((n : Int), l, (l.length : Int), c, o, (i : Int), ()) = some (.inl ((shlC (n % 32) (l.drop i) c o).2, (shlC (n % 32) (l.drop i) c o).1, ()))
  | 0, i, c, o, h, _, _, _ => by
    refine lim_end ?_
    rw [hS]; unfold shlS
    rw [decide_eq_false (show ¬ (i : Int) < (l.length : Int) by omega), cond_false, List.drop_eq_nil_of_le (by omega)]; rfl
  | k + 1, i, c, o, h, ho, hc0, hc1 => by
    have hi : i < l.length := by omega
    have gx := limb_getD hl i
    obtain ⟨xn, hx⟩ := Int.eq_ofNat_of_zero_le gx.1
    obtain ⟨cn, rfl⟩ := Int.eq_ofNat_of_zero_le hc0
    rw [p32] at hc1
    have hs32 : n % 32 < 32 := Nat.mod_lt _ (by decide)
    have em : ((n : Int).tmod 32) = ((n % 32 : Nat) : Int) := by rw [Int.tmod_eq_emod_of_nonneg (by omega)]; omega
    have ec : cnt ((n % 32 : Nat) : Int) = n % 32 := by unfold cnt; rw [Int.toNat_natCast]; omega
    have hb : cn + xn * 2 ^ (n % 32) < 18446744073709551616 := by
      have h1 := shl_carry hs32 (show cn < 2 ^ (n % 32) by omega) (show xn < 4294967296 by omega)
      have h2 : (2 : Nat) ^ (n % 32) ≤ 2 ^ 31 := Nat.pow_le_pow_right (by decide) (by omega)
      have h3 : (2 : Nat) ^ 31 = 2147483648 := by decide
      omega
    have hstep : S ((n : Int), l, (l.length : Int), (cn : Int), o, (i : Int), ()) = some (.inl ((n : Int), l, (l.length : Int), ((cn : Int) + l.getD i 0 * 2 ^ (n % 32)) / 4294967296, o ++ [((cn : Int) + l.getD i 0 * 2 ^ (n % 32)) % 4294967296], ((i + 1 : Nat) : Int), ())) := by
      rw [hS]; unfold shlS
      have hno : ¬ ((n % 32 : Nat) : Int) < 0 := by omega
      rw [decide_eq_true (show (i : Int) < (l.length : Int) by omega), cond_true, inRn hi, cond_true, em, decide_eq_false hno, cond_false, ec, Int.toNat_natCast, hx, p32]
      have e1 : U (xn : Int) = (xn : Int) := U_small (by omega) (by omega)
      have e2 : U ((xn : Int) * ((2 ^ (n % 32) : Nat) : Int)) = ((xn * 2 ^ (n % 32) : Nat) : Int) := by
        rw [← Int.natCast_mul, U_small (by omega) (by omega)]
      rw [e1, e2, or_add (by omega) hb, H_mod, Int.fdiv_eq_ediv_of_nonneg _ (by decide),
        appN_ok (by rw [List.length_append]; simp only [List.length_cons, List.length_nil]; omega), W_small (by omega) (by omega)]
      have e3 : ((cn + xn * 2 ^ (n % 32) : Nat) : Int) = (cn : Int) + (xn : Int) * ((2 ^ (n % 32) : Nat) : Int) := by rw [Int.natCast_add, Int.natCast_mul]
      rw [e3]; rfl
    have hcar := shl_carry hs32 (show cn < 2 ^ (n % 32) by omega) (show xn < 4294967296 by omega)
    have e6 : ((cn : Int) + l.getD i 0 * 2 ^ (n % 32)) / 4294967296 = (((cn + xn * 2 ^ (n % 32)) / 4294967296 : Nat) : Int) := by
      rw [hx, p32, ← Int.natCast_mul, ← Int.natCast_add]; rfl
    rw [lim_next hstep, shl_loop hS hl hll hn k (i + 1) _ _ (by omega) (by simp; omega) (by rw [e6]; omega) (by rw [e6, p32]; omega)]
    have e5 : shlC (n % 32) (l.drop i) (cn : Int) o = shlC (n % 32) (l.drop (i + 1)) (((cn : Int) + l.getD i 0 * 2 ^ (n % 32)) / 4294967296) (o ++ [((cn : Int) + l.getD i 0 * 2 ^ (n % 32)) % 4294967296]) := by
      rw [List.drop_eq_getElem_cons hi]
      simp only [shlC]
      rw [show l.getD i 0 = l[i] by simp [List.getD, hi]]
    rw [e5]
theorem shlF_ok {trimO : L → OL} {bitsO : L → OI} {limO : L → OLI} {S : XL → Option (XL ⊕ (YL ⊕ Unit))} (hS : ∀ n l m c o i, S (n, l, m, c, o, i, ()) = shlS n l m c o i) {a : L} (ha : Limb a) (hla : a.length ≤ 100) {n : Nat} (hn : n ≤ 10000)
    (ht : trimO a = some (ltrim a, ())) (hb : bitsO (ltrim a) = some ((bitsV (ltrim a) : Int), ())) (hl : ∀ l, Limb l → l.length ≤ 1010 → limO l = some (ltrim l, 0, ())) : shlF trimO bitsO limO S a (n : Int) = some (lb (lval a * 2 ^ n), 0, ()) := by
  unfold shlF
  have hno : ¬ (n : Int) < 0 := by omega
  have hlt := limb_ltrim ha
  have hle := ltrim_le a
  have hval : lval (ltrim a) = lval a := by rw [ltrim_lb ha, lval_lb]
  rw [decide_eq_false hno, cond_false, ht]
  simp only
  by_cases h0 : (ltrim a).length = 0
  · rw [show (((ltrim a).length : Int) == 0) = true by simp [h0], cond_true]
    have : lval a = 0 := by rw [← hval, List.eq_nil_of_length_eq_zero h0]; rfl
    rw [this, Nat.zero_mul, lb_zero]
  · have hb1 := bitsV_le hlt
    have hb2 := ltrim_le (ltrim a)
    rw [beq_eq_false_iff_ne.2 (show ((ltrim a).length : Int) ≠ 0 by omega), cond_false, decide_eq_false (show ¬ (n : Int) > 32768 by omega), cond_false, hb]
    simp only
    have e0 : W (32768 - (n : Int)) = 32768 - (n : Int) := W_small (by omega) (by omega)
    have e1 : W ((n : Int).tdiv 32) = ((n / 32 : Nat) : Int) := by rw [Int.tdiv_eq_ediv_of_nonneg (by omega), W_small (by omega) (by omega)]; omega
    have e2 : W (((n / 32 : Nat) : Int) + ((ltrim a).length : Int)) = ((n / 32 : Nat) : Int) + ((ltrim a).length : Int) := W_small (by omega) (by omega)
    have e3 : W (((n / 32 : Nat) : Int) + ((ltrim a).length : Int) + 1) = ((n / 32 : Nat) : Int) + ((ltrim a).length : Int) + 1 := W_small (by omega) (by omega)
    rw [e0, decide_eq_false (show ¬ (bitsV (ltrim a) : Int) > 32768 - (n : Int) by omega), cond_false, e1, e2, e3, decide_eq_true (show (0 : Int) ≤ ((n / 32 : Nat) : Int) by omega), decide_eq_true (show ((n / 32 : Nat) : Int) ≤ ((n / 32 : Nat) : Int) + ((ltrim a).length : Int) + 1 by omega), decide_eq_true (show ((n / 32 : Nat) : Int) + ((ltrim a).length : Int) + 1 ≤ (maxRow : Int) by show _ ≤ (1000000000 : Int); omega), Int.toNat_natCast]
    simp only [Bool.and_self, cond_true]
    have hp : (0 : Int) < 2 ^ (n % 32) := Int.pow_pos (by decide)
    have hlp := shl_loop hS hlt (by omega) (show n ≤ 1000000 by omega) (ltrim a).length 0 0 (List.replicate (n / 32) 0) (Nat.zero_add _) (by rw [List.length_replicate]; omega) (Int.le_refl _) hp
    rw [List.drop_zero] at hlp
    have hlp' : lim S ((n : Int), ltrim a, ((ltrim a).length : Int), 0, List.replicate (n / 32) 0, 0, ()) = _ := hlp
    rw [hlp']
    obtain ⟨k1, k2⟩ := shl_val hlt n
    obtain ⟨_, q2, q3, q4, _⟩ := shlC_ok (s := n % 32) (Nat.mod_lt _ (by decide)) (ltrim a) 0 (List.replicate (n / 32) 0) hlt (Int.le_refl _) hp (limb_rep _)
    simp only
    have h31 : ((2 : Int) ^ (n % 32)) ≤ 2147483648 := by
      have h1 : (2 : Nat) ^ (n % 32) ≤ 2 ^ 31 := Nat.pow_le_pow_right (by decide) (by omega)
      have h3 : (2 : Nat) ^ 31 = 2147483648 := by decide
      rw [p32]; omega
    have eh : H (shlC (n % 32) (ltrim a) 0 (List.replicate (n / 32) 0)).2 = (shlC (n % 32) (ltrim a) 0 (List.replicate (n / 32) 0)).2 := by rw [H_mod]; omega
    rw [List.length_replicate] at q2
    have len : ((shlC (n % 32) (ltrim a) 0 (List.replicate (n / 32) 0)).1 ++ [(shlC (n % 32) (ltrim a) 0 (List.replicate (n / 32) 0)).2]).length ≤ 1010 := by
      rw [List.length_append, q2]; simp only [List.length_cons, List.length_nil]; omega
    rw [eh, appN_ok (by omega), onLI_eq, hl _ k1 len, ltrim_lb k1, k2, hval]
/-! ### Mul -/
abbrev XM := L × L × L × Int × Int × Unit
abbrev XM2 := L × L × L × Int × Int × Int × Int × Int × Int × Unit
abbrev YM2 := L × L × L × Int × Int × Int × Int × Unit
def macc (a b o : L) (p k c : Int) : Int := U (c + U (U (U (a.getD p.toNat 0) * U (b.getD k.toNat 0)) + U (o.getD (W (p + k)).toNat 0)))
def mulS2 (a b o : L) (p c n i m k : Int) : Option (XM2 ⊕ (YM2 ⊕ Unit)) :=
  bif decide (k < m) then bif inRange p a.length then bif inRange k b.length then bif inRange (W (p + k)) o.length then bif inRange (W (p + k)) o.length then
    some (.inl (a, b, o.set (W (p + k)).toNat (H (macc a b o p k c)), p, (macc a b o p k c).fdiv 4294967296, n, i, m, W (k + 1), ())) else none else none else none else none else some (.inr (.inl (a, b, o, p, c, n, i, ())))
noncomputable def mulS (S2 : XM2 → Option (XM2 ⊕ (YM2 ⊕ Unit))) (a b o : L) (n i : Int) : Option (XM ⊕ ((L × Unit) ⊕ Unit)) :=
  bif decide (i < n) then (match lim S2 (a, b, o, i, 0, n, i, (b.length : Int), 0, ()) with
    | none => none
    | some (.inl z) => bif inRange (W (z.2.2.2.1 + (z.2.1.length : Int))) z.2.2.1.length then some (.inl (z.1, z.2.1, z.2.2.1.set (W (z.2.2.2.1 + (z.2.1.length : Int))).toNat (H z.2.2.2.2.1), z.2.2.2.2.2.1, W (z.2.2.2.2.2.2.1 + 1), ())) else none
    | some (.inr _) => some (.inr (.inr ()))) else some (.inr (.inl (o, ())))
noncomputable def mulF (trimO : L → OL) (bitsO : L → OI) (limO : L → OLI) (S : XM → Option (XM ⊕ ((L × Unit) ⊕ Unit))) (a b : L) : OLI := match trimO a with
  | none => none
  | some x => match trimO b with
    | none => none
    | some y => bif (x.1.length : Int) == 0 then some ([], 0, ()) else bif (y.1.length : Int) == 0 then some ([], 0, ()) else match bitsO x.1 with
      | none => none
      | some p => match bitsO y.1 with
        | none => none
        | some q => bif decide (W (W (p.1 + q.1) - 1) > 32768) then some ([], 4, ()) else
          bif decide ((0 : Int) ≤ W ((x.1.length : Int) + (y.1.length : Int))) && decide (W ((x.1.length : Int) + (y.1.length : Int)) ≤ W ((x.1.length : Int) + (y.1.length : Int))) && decide (W ((x.1.length : Int) + (y.1.length : Int)) ≤ (maxRow : Int)) then
          (match lim S (x.1, y.1, List.replicate (W ((x.1.length : Int) + (y.1.length : Int))).toNat 0, (x.1.length : Int), 0, ()) with
          | none => none
          | some (.inl z) => onLI (limO z.1)
          | some (.inr _) => none) else none
theorem ltrim_one {x : Nat} (h0 : x ≠ 0) : ltrim [(x : Int)] = [(x : Int)] := by
  simp only [ltrim]
  rw [if_neg]
  rintro ⟨_, h⟩; omega
theorem mulF_step {trimO : L → OL} {bitsO : L → OI} {limO : L → OLI} {S : XM → Option (XM ⊕ ((L × Unit) ⊕ Unit))} {x y p q : Int} (h1 : trimO [x] = some ([x], ())) (h2 : trimO [y] = some ([y], ())) (h3 : bitsO [x] = some (p, ())) (h4 : bitsO [y] = some (q, ())) :
    mulF trimO bitsO limO S [x] [y] = bif decide (W (W (p + q) - 1) > 32768) then some ([], 4, ()) else match lim S ([x], [y], [0, 0], 1, 0, ()) with
      | none => none
      | some (.inl z) => onLI (limO z.1)
      | some (.inr _) => none := by
  have w2 : W ((([x] : L).length : Int) + (([y] : L).length : Int)) = 2 := by
    show W (1 + 1) = 2
    decide
  unfold mulF
  rw [h1, h2]
  simp only
  rw [h3, h4]
  simp only
  rw [w2]
  rfl
/-- two single limbs -/
theorem mulF_one {trimO : L → OL} {bitsO : L → OI} {limO : L → OLI} {S : XM → Option (XM ⊕ ((L × Unit) ⊕ Unit))} {S2 : XM2 → Option (XM2 ⊕ (YM2 ⊕ Unit))}
    (hS2 : ∀ a b o p c n i m k, S2 (a, b, o, p, c, n, i, m, k, ()) = mulS2 a b o p c n i m k) (hS : ∀ a b o n i, S (a, b, o, n, i, ()) = mulS S2 a b o n i) {x y : Nat} (hx : x ≠ 0) (hy : y ≠ 0) (lx : x < 4294967296) (ly : y < 4294967296)
    (ht : ∀ a : L, a.length ≤ 1010 → trimO a = some (ltrim a, ())) (hb : ∀ a, Limb a → a.length ≤ 1010 → bitsO a = some ((bitsV a : Int), ())) (hl : ∀ l, Limb l → l.length ≤ 1010 → limO l = some (ltrim l, 0, ())) :
    mulF trimO bitsO limO S [(x : Int)] [(y : Int)] = some (lb (x * y), 0, ()) := by
  have l1 : Limb [(x : Int)] := Limb.one (by omega)
  have l2 : Limb [(y : Int)] := Limb.one (by omega)
  have b1 := bitsV_le l1
  have b2 := bitsV_le l2
  rw [ltrim_one hx] at b1
  rw [ltrim_one hy] at b2
  simp only [List.length_cons, List.length_nil] at b1 b2
  have t1' : trimO [(x : Int)] = some ([(x : Int)], ()) := by rw [ht _ (by simp), ltrim_one hx]
  have t2' : trimO [(y : Int)] = some ([(y : Int)], ()) := by rw [ht _ (by simp), ltrim_one hy]
  rw [mulF_step t1' t2' (hb _ l1 (by simp)) (hb _ l2 (by simp))]
  have e1 : W ((bitsV [(x : Int)] : Int) + (bitsV [(y : Int)] : Int)) = (bitsV [(x : Int)] : Int) + (bitsV [(y : Int)] : Int) := W_small (by omega) (by omega)
  have e2 : W ((bitsV [(x : Int)] : Int) + (bitsV [(y : Int)] : Int) - 1) = (bitsV [(x : Int)] : Int) + (bitsV [(y : Int)] : Int) - 1 := W_small (by omega) (by omega)
  rw [e1, e2, decide_eq_false (show ¬ (bitsV [(x : Int)] : Int) + (bitsV [(y : Int)] : Int) - 1 > 32768 by omega), cond_false]
  have hxy : x * y < 18446744073709551616 := by
    have h := Nat.mul_le_mul (show x ≤ 4294967295 by omega) (show y ≤ 4294967295 by omega)
    omega
  have w0 : W (0 + 0) = 0 := by decide
  have w1 : W (0 + 1) = 1 := by decide
  have hm : macc [(x : Int)] [(y : Int)] [0, 0] 0 0 0 = ((x * y : Nat) : Int) := by
    unfold macc
    rw [w0]
    simp only [Int.toNat_zero, List.getD_cons_zero]
    rw [U_small (k := (x : Int)) (by omega) (by omega), U_small (k := (y : Int)) (by omega) (by omega), ← Int.natCast_mul, U_small (k := ((x * y : Nat) : Int)) (by omega) (by omega), show U 0 = 0 by decide, Int.add_zero, U_small (k := ((x * y : Nat) : Int)) (by omega) (by omega), Int.zero_add, U_small (by omega) (by omega)]
  have hH : H ((x * y : Nat) : Int) = (((x * y) % 4294967296 : Nat) : Int) := by rw [H_mod]; omega
  have hD : (((x * y : Nat) : Int)).fdiv 4294967296 = (((x * y) / 4294967296 : Nat) : Int) := by rw [Int.fdiv_eq_ediv_of_nonneg _ (by decide)]; rfl
  have hH2 : H (((x * y) / 4294967296 : Nat) : Int) = (((x * y) / 4294967296 : Nat) : Int) := by rw [H_mod]; omega
  have s1 : S2 ([(x : Int)], [(y : Int)], [0, 0], 0, 0, 1, 0, 1, 0, ()) = some (.inl ([(x : Int)], [(y : Int)], [(((x * y) % 4294967296 : Nat) : Int), 0], 0, (((x * y) / 4294967296 : Nat) : Int), 1, 0, 1, 1, ())) := by
    rw [hS2]; unfold mulS2
    rw [hm, w0, hH, hD, w1]; rfl
  have s2 : S2 ([(x : Int)], [(y : Int)], [(((x * y) % 4294967296 : Nat) : Int), 0], 0, (((x * y) / 4294967296 : Nat) : Int), 1, 0, 1, 1, ()) = some (.inr (.inl ([(x : Int)], [(y : Int)], [(((x * y) % 4294967296 : Nat) : Int), 0], 0, (((x * y) / 4294967296 : Nat) : Int), 1, 0, ()))) := by
    rw [hS2]; unfold mulS2; rfl
  have inner := (lim_next s1).trans (lim_end s2)
  have t1 : S ([(x : Int)], [(y : Int)], [0, 0], 1, 0, ()) = some (.inl ([(x : Int)], [(y : Int)], [(((x * y) % 4294967296 : Nat) : Int), (((x * y) / 4294967296 : Nat) : Int)], 1, 1, ())) := by
    rw [hS]; unfold mulS
    have el : (([(y : Int)] : L).length : Int) = 1 := rfl
    rw [el, inner]
    show (bif decide ((0 : Int) < 1) then (bif inRange (W (0 + 1)) 2 then some (Sum.inl ([(x : Int)], [(y : Int)], ([(((x * y) % 4294967296 : Nat) : Int), 0] : L).set (W (0 + 1)).toNat (H (((x * y) / 4294967296 : Nat) : Int)), 1, W (0 + 1), ())) else none) else _) = _
    rw [w1, hH2]; rfl
  have t2 : S ([(x : Int)], [(y : Int)], [(((x * y) % 4294967296 : Nat) : Int), (((x * y) / 4294967296 : Nat) : Int)], 1, 1, ()) = some (.inr (.inl ([(((x * y) % 4294967296 : Nat) : Int), (((x * y) / 4294967296 : Nat) : Int)], ()))) := by
    rw [hS]; unfold mulS; rfl
  have outer := (lim_next t1).trans (lim_end t2)
  rw [outer]
  have hlim : Limb [(((x * y) % 4294967296 : Nat) : Int), (((x * y) / 4294967296 : Nat) : Int)] := Limb.mk (by omega) (Limb.one (by omega))
  have hv : lval [(((x * y) % 4294967296 : Nat) : Int), (((x * y) / 4294967296 : Nat) : Int)] = x * y := by
    simp only [lval, Int.toNat_natCast]; omega
  have fin : onLI (limO [(((x * y) % 4294967296 : Nat) : Int), (((x * y) / 4294967296 : Nat) : Int)]) = some (lb (x * y), 0, ()) := by
    rw [onLI_eq, hl _ hlim (by simp), ltrim_lb hlim, hv]
  exact fin
theorem mulF_nil {trimO : L → OL} {bitsO : L → OI} {limO : L → OLI} {S : XM → Option (XM ⊕ ((L × Unit) ⊕ Unit))} {a b : L} (ha : Limb a) (hb : Limb b) (la : a.length ≤ 1010) (lb' : b.length ≤ 1010)
    (ht : ∀ a : L, a.length ≤ 1010 → trimO a = some (ltrim a, ())) (h0 : lval a = 0 ∨ lval b = 0) : mulF trimO bitsO limO S a b = some ([], 0, ()) := by
  unfold mulF
  rw [ht _ la, ht _ lb']
  simp only
  rcases h0 with h0 | h0
  · rw [ltrim_lb ha, h0, lb_zero]; rfl
  · rw [ltrim_lb hb, h0, lb_zero]
    cases hq : (((ltrim a).length : Int) == 0) <;> rfl
end Go.Pv.Nn
/-! ### What a caller is told of a function with structured results whose slice arguments are lent (live slices inside structs are frozen); the results are live rows of flat data. -/
namespace Go.Pv

/-! ### Values that do not hang on the frozen zone -/
inductive ZF : V → Prop
  | dead : ZF .dead
  | bool (b : Bool) : ZF (.bool b)
  | int (k : IntKind) (n : Int) : ZF (.int k n)
  | str (s : ByteArray) : ZF (.str s)
  | ptr (b i j g : Nat) : ZF (.ptr b i j g)
  | mp (b : Nat) : ZF (.mp b)
  | sl (b i : Nat) (m : Option Nat) (g : Nat) : ZF (.sl b i m g)
  | agg (cs : List V) (h : ∀ c ∈ cs, ZF c) : ZF (.agg cs)

theorem ZF.plain {v : V} (h : v.plain = true) : ZF v := by
  cases v <;> first | (cases h; done) | constructor

theorem RV.zf {β : Nat → Option Loc} {M : Mem} {Z Z' : Nat → Prop} {h : Heap} {x : V} {v : Value} (r : RV β M Z h x v) (hz : ZF x) : RV β M Z' h x v := by
  induction r with
  | dead v => exact .dead v
  | bool b => exact .bool b
  | int k n => exact .int k n
  | str s => exact .str s
  | nils => exact .nils
  | nilp => exact .nilp
  | nilf => exact .nilf
  | nilm => exact .nilm
  | mp b v h1 hn hg => exact .mp b v h1 hn hg
  | ptr b i j gg v h1 hn hg => exact .ptr b i j gg v h1 hn hg
  | pa b j e n x o v h1 hn hg => exact .pa b j e n x o v h1 hn hg
  | sl b i m gg v h1 hn hg => exact .sl b i m gg v h1 hn hg
  | sb b j s n v h1 hn hg => exact .sb b j s n v h1 hn hg
  | fz τ l v hd => cases hz
  | fp τ l i j v cb off c T fz x hv hz' hc hx ho hd => cases hz
  | fn f cap vs hl hc ih => cases hz
  | agg cs vs hl hc ih => cases hz with | agg _ hh => exact .agg cs vs hl fun i hi => ih i hi (hh _ (List.getElem_mem hi))
  | tup cs vs hl hc ih => cases hz

def Tr.fl : Tr → Bool
  | .unit => true
  | .dat τ => τ.flat
  | .row τ => τ.flat
  | .mp _ τ => τ.flat
  | .box t => t.fl
  | .fn _ _ => false
  | .pair a b => a.fl && b.fl
def TSh.fl (sh : TSh) : Bool := sh.all fun s => s.tr.fl

theorem Tr.cells_zf : ∀ (t : Tr) (k : Nat) (x : t.den), t.fl = true → ∀ c ∈ t.cells k x, ZF c
  | .unit, _, _, _, c, h => by simp [Tr.cells] at h
  | .dat τ, _, x, hf, c, h => .plain (enc_plain hf c h)
  | .row τ, k, _, _, c, h => by simp only [Tr.cells, List.mem_singleton] at h; subst h; constructor
  | .mp _ τ, k, _, _, c, h => by simp only [Tr.cells, List.mem_singleton] at h; subst h; constructor
  | .box t, k, _, _, c, h => by simp only [Tr.cells, List.mem_singleton] at h; subst h; constructor
  | .fn _ _, _, _, hf, _, _ => by cases hf
  | .pair a b, k, x, hf, c, h => by
    simp only [Tr.fl, Bool.and_eq_true] at hf
    simp only [Tr.cells, List.mem_append] at h
    rcases h with h | h
    · exact a.cells_zf k x.1 hf.1 c h
    · exact b.cells_zf _ x.2 hf.2 c h

/-- a block that holds flat rows or boxes of such values -/
def BF : Blk → Prop
  | .none => True
  | .row τ _ _ ro => τ.flat = true ∧ ro = false
  | .box cs => ∀ c ∈ cs, ZF c
  | .mp _ τ _ => τ.flat = true
  | _ => False

theorem Tr.mem_bf : ∀ (t : Tr) (k : Nat) (x : t.den) (n : Nat), t.fl = true → BF (t.mem k x n)
  | .unit, _, _, _, _ => trivial
  | .dat _, _, _, _, _ => trivial
  | .row τ, k, l, n, hf => by
    simp only [Tr.mem]
    cases Nat.beq n k
    · trivial
    · exact ⟨hf, rfl⟩
  | .mp _ τ, k, l, n, hf => by
    simp only [Tr.mem]
    cases Nat.beq n k
    · trivial
    · exact hf
  | .box t, k, x, n, hf => by
    simp only [Tr.mem]
    cases Nat.beq n k
    · exact t.mem_bf (k + 1) x n hf
    · exact t.cells_zf (k + 1) x hf
  | .fn _ _, _, _, _, hf => by cases hf
  | .pair a b, k, x, n, hf => by
    simp only [Tr.fl, Bool.and_eq_true] at hf
    simp only [Tr.mem]
    cases Nat.blt n (k + a.wid)
    · exact b.mem_bf _ x.2 n hf.2
    · exact a.mem_bf k x.1 n hf.1

theorem TSh.putM_bf : ∀ (sh : TSh) (k : Nat) (x : sh.den) (n : Nat), sh.fl = true → BF (TSh.putM sh k x n)
  | [], _, _, _, _ => trivial
  | s :: r, k, x, n, hf => by
    simp only [TSh.fl, List.all_cons, Bool.and_eq_true] at hf
    simp only [TSh.putM]
    cases Nat.blt n (k + s.tr.wid)
    · exact TSh.putM_bf r _ x.2 n hf.2
    · exact s.tr.mem_bf k x.1 n hf.1

theorem TSh.putT_zf : ∀ (sh : TSh) (k : Nat) (x : sh.den) (t : Nat), sh.fl = true → ZF (TSh.putT sh k x t)
  | [], _, _, _, _ => .dead
  | s :: r, k, x, t, hf => by
    simp only [TSh.fl, List.all_cons, Bool.and_eq_true] at hf
    simp only [TSh.putT]
    by_cases e : t = s.tmp
    · subst e
      rw [setT_same]
      have hc := s.tr.cells_zf k x.1 hf.1
      cases hs : s.ag with
      | true => exact .agg _ hc
      | false =>
        simp only [mkv, cond_false]
        cases he : s.tr.cells k x.1 with
        | nil => exact .dead
        | cons c l => exact hc c (by rw [he]; simp)
    · rw [setT_ne _ _ e]
      exact TSh.putT_zf r _ x.2 t hf.2

theorem RB.zf {β : Nat → Option Loc} {M : Mem} {Z Z' : Nat → Prop} {h : Heap} {b : Nat} (hs : BF (M b)) (r : RB β M Z h b) : RB β M Z' h b := by
  unfold RB at *
  cases hm : M b with
  | none => trivial
  | dead => trivial
  | box cells =>
    rw [hm] at hs r
    simp only at r ⊢
    obtain ⟨cb, T, c, e1, e2, e3, e4⟩ := r
    exact ⟨cb, T, c, e1, e2, e3, fun i hi => (e4 i hi).zf (hs _ (List.getElem_mem hi))⟩
  | row τ l g ro =>
    rw [hm] at hs r
    obtain ⟨hf, rfl⟩ := hs
    simp only at r ⊢
    rcases r with r | ⟨cb, base, T, c, fz, e1, e2, e3, e4, e5, e6⟩
    · exact .inl r
    · exact .inr ⟨cb, base, T, c, fz, e1, e2, e3, e4, fun i x hx => (e5 i x hx).anyZ hf, by simp⟩
  | mp k τ l =>
    rw [hm] at hs
    simp only [hm] at r ⊢
    obtain ⟨cb, es, clock, e1, e2, e3⟩ := r
    exact ⟨cb, es, clock, e1, e2, e3.1, e3.2.1, e3.2.2.1, fun i e x h1 h2 => ⟨(e3.2.2.2 i e x h1 h2).1, (e3.2.2.2 i e x h1 h2).2.anyZ hs⟩⟩

/-! ### Freezing inside structs alone -/
def frzB1 (M : Mem) (v : V) : V × List (Nat × Blk) :=
  match v with
  | .agg cs => match frzL M cs with
    | (cs', u) => (.agg cs', u)
  | v => (v, [])
def frzB (M : Mem) : List V → List V × List (Nat × Blk)
  | [] => ([], [])
  | v :: r => match frzB1 M v with
    | (v', u) => match frzB (M.upds u) r with
      | (r', u') => (v' :: r', u ++ u')
def V.solidB : V → Bool
  | .agg cs => cs.all fun c => match c with
    | .sl _ _ _ _ => false
    | _ => true
  | _ => true

theorem frzB1_congr {M M2 : Mem} {v : V} (hs : (frzB1 M v).1.solidB = true) (hM : ∀ b ∈ (frzB1 M v).2.map (·.1), M2 b = M b) : frzB1 M2 v = frzB1 M v := by
  cases v with
  | agg cs =>
    simp only [frzB1] at hs hM ⊢
    have := frzL_congr (M2 := M2) hs hM
    rw [this]
  | _ => rfl
theorem frzB_congr : ∀ {cs : List V} {M M2 : Mem}, (frzB M cs).1.all V.solidB = true → (∀ b ∈ (frzB M cs).2.map (·.1), M2 b = M b) → frzB M2 cs = frzB M cs
  | [], _, _, _, _ => rfl
  | v :: r, M, M2, hs, hM => by
    simp only [frzB, List.all_cons, Bool.and_eq_true, List.map_append, List.mem_append] at hs hM
    have e1 := frzB1_congr (M2 := M2) hs.1 fun b hb => hM b (.inl hb)
    have e2 := frzB_congr (M2 := M2.upds (frzB1 M v).2) hs.2 fun b hb => upds_agree fun _ => hM b (.inr hb)
    simp only [frzB, e1, e2]

section
variable {β : Nat → Option Loc} {Z : Nat → Prop} {w : World}
theorem frzB1_ok {M : Mem} (hm : RMem β M Z w.heap) {v : V} {x : Value} (hv : RV β M Z w.heap v x) : ∃ Z', FrzOK β M Z w (frzB1 M v).2 Z' ∧ RV β (M.upds (frzB1 M v).2) Z' w.heap (frzB1 M v).1 x := by
  unfold frzB1
  split
  · rename_i cs
    obtain ⟨vs, rfl, hl, hc⟩ := hv.agg_inv
    obtain ⟨Z', f, r⟩ := frzL_ok hm (RL.of_arr hl hc)
    obtain ⟨e1, e2⟩ := RL.to_arr r
    exact ⟨Z', f, .agg _ _ e1 e2⟩
  · exact ⟨Z, FrzOK.none hm, hv⟩
theorem frzB_ok : ∀ {cs : List V} {M : Mem} {Z : Nat → Prop} {xs : List Value}, RMem β M Z w.heap → RL β M Z w.heap cs xs → ∃ Z', FrzOK β M Z w (frzB M cs).2 Z' ∧ RL β (M.upds (frzB M cs).2) Z' w.heap (frzB M cs).1 xs
  | [], M, Z, xs, hm, hr => ⟨Z, FrzOK.none hm, hr⟩
  | v :: r, M, Z, xs, hm, hr => by
    obtain ⟨u, us, rfl, h1, h2⟩ := hr.cons_inv
    obtain ⟨Z1, f1, r1⟩ := frzB1_ok hm h1
    obtain ⟨Z2, f2, r2⟩ := frzB_ok f1.mem (h2.mono f1.ev.toEv.toGrow)
    refine ⟨Z2, f1.trans f2, ?_⟩
    simp only [frzB]
    rw [upds_append]
    exact RL.cons (r1.mono f2.ev.toEv.toGrow) r2
end

def specL {R : Type} (sa : Sig) (sr : TSh) (F : sa.den → Option sr.den) : List V → Mem → Nat → (Eff → Option R) → Option R := fun args M id c =>
  match frzB M args with
  | (args, u) => bif args.all V.solidB && sr.fl then (match argsG (M.upds u) sa args with
    | none => none
    | some (x, fps) => match F x with
        | none => none
        | some y => forceN ((id + 1) * 100000) fun k => forceNs ((List.range sr.wid).map fun j => k + j) fun ids =>
          bif ids.all (fun b => (M b).isNone) && u.all (fun p => Nat.blt p.1 k) then
            c { val := retV (resT sr k y sr.length), upd := u ++ ids.map fun b => (b, TSh.putM sr k y b), fp := ids ++ u.map (·.1) ++ fps } else none) else none

section
variable {P : Program}
theorem specL_ok {R : Type} {f : FuncId} {sa : Sig} {sr : TSh} {F : sa.den → Option sr.den} (hfn : FnT P f sa sr F)
    (hcount : ∀ fn, P.funcs[f]? = some fn → fn.results.size = sr.length) :
    ∀ args M id (c : Eff → Option R) r, specL sa sr F args M id c = some r → ∃ eff, CallOK P f args M eff ∧ c eff = some r := by
  intro args M id c r h
  unfold specL at h
  generalize hfz : frzB M args = fz at h
  obtain ⟨args', u⟩ := fz
  simp only at h
  cases hsol : args'.all V.solidB && sr.fl with
  | false => rw [hsol] at h; cases h
  | true =>
    rw [hsol] at h
    simp only [cond_true] at h
    simp only [Bool.and_eq_true] at hsol
    obtain ⟨hsol, hfl⟩ := hsol
    cases ha : argsG (M.upds u) sa args' with
    | none => rw [ha] at h; cases h
    | some p =>
      obtain ⟨x, fps⟩ := p
      rw [ha] at h
      simp only at h
      cases hF : F x with
      | none => rw [hF] at h; cases h
      | some y =>
        rw [hF] at h
        simp only [forceN_eq, forceNs_eq] at h
        generalize (id + 1) * 100000 = k at h
        cases hi : ((List.range sr.wid).map fun j => k + j).all (fun b => (M b).isNone) && u.all (fun p => Nat.blt p.1 k) with
        | false => rw [hi] at h; cases h
        | true =>
          rw [hi] at h
          simp only [cond_true] at h
          simp only [Bool.and_eq_true] at hi
          obtain ⟨hcallable, hcalls⟩ := hfn x y hF
          have hids : ∀ b, b ∈ ((List.range sr.wid).map fun j => k + j) ↔ k ≤ b ∧ b < k + sr.wid := fun b => by
            simp only [List.mem_map, List.mem_range]
            constructor
            · rintro ⟨j, hj, rfl⟩; omega
            · rintro ⟨h1, h2⟩; exact ⟨b - k, by omega, by omega⟩
          generalize hidsE : ((List.range sr.wid).map fun j => k + j) = ids at h hi hids
          have hu : ∀ b ∈ u.map (·.1), b < k := fun b hb => by
            obtain ⟨p, hp, rfl⟩ := List.mem_map.1 hb
            exact blt_iff.1 (List.all_eq_true.1 hi.2 p hp)
          refine ⟨_, ⟨fun b hb => ?_, hcallable, fun M2 hM β Z w cargs hmem hargs => ?_⟩, h⟩
          · simp only [List.map_append, List.map_map, List.mem_append] at hb ⊢
            rcases hb with hb | hb
            · exact .inl (.inr hb)
            · left; left
              simpa using hb
          · simp only [List.mem_append] at hM
            have hfz2 : frzB M2 args = (args', u) := by
              have e := frzB_congr (cs := args) (M := M) (M2 := M2) (by rw [hfz]; exact hsol) (by rw [hfz]; exact fun b hb => hM b (.inl (.inr hb)))
              rw [e, hfz]
            obtain ⟨Z1, f1, r1⟩ := frzB_ok (w := w) hmem hargs
            rw [hfz2] at f1 r1
            simp only at f1 r1
            have ha2 : argsG (M2.upds u) sa args' = some (x, fps) := argsG_congr ha fun b hb => upds_agree fun _ => hM b (.inr hb)
            have hzlt : ZOk (lentZ β (M2.upds u) Z1 fps) w.heap := f1.mem.zlt.mono (fun _ _ => rfl) (fun _ h => .inl h) fun cb hz => by
              rcases hz with hz | ⟨b, _, hl⟩
              · exact f1.mem.zlt.lt cb hz
              · exact lies_lt (f1.mem.blk b) hl
            have hargs' := argsG_ok f1.mem (Z1 := lentZ β (M2.upds u) Z1 fps) (fun cb hz => .inl hz) β (fun _ => .none) ha2 r1 fun b hb cb hl => .inr ⟨b, hb, hl⟩
            refine (hcalls k β _ w cargs hzlt hargs').mono fun e w' ⟨us, β', Z', h1, ⟨fn, h2, h3⟩, h4, h5, h6⟩ => ?_
            obtain ⟨s1, s2, s3, s4, s5, s6⟩ := h6
            have hfree : ∀ b ∈ ids, (M2.upds u) b = .none := fun b hb => by
              have hb' := (hids b).1 hb
              rw [upds_not fun hin => by have := hu b hin; omega, hM b (.inl (.inl hb))]
              exact isNone_iff (List.all_eq_true.1 hi.1 b hb)
            have hmem' : RMem β' (TSh.putM sr k y) Z1 w'.heap :=
              ⟨fun b => RB.zf (TSh.putM_bf sr k y b hfl) (h5.blk b), h5.sep, fun cb hz ho => h5.zown cb (s1 cb (.inl hz)) ho,
                f1.mem.zlt.mono (fun cb hz => s4 cb (f1.mem.zlt.lt cb hz)) (fun _ h => h) fun cb hz => Nat.lt_of_lt_of_le (f1.mem.zlt.lt cb hz) s3⟩
            have hev : Ev β ((M2.upds u).only []) Z1 w.heap β' (TSh.putM sr k y) Z1 w'.heap := by
              have hn : ∀ b, (M2.upds u).only [] b = .none := fun b => only_out (by simp)
              refine { zkeep := fun cb hz => s4 cb (f1.mem.zlt.lt cb hz), zmono := fun _ h => h, nn := fun b hb => absurd (hn b) hb, gone := fun b hb _ => absurd (hn b) hb, gens := fun b g hg => (by rw [hn b] at hg; cases hg), size := s3, frame := fun cb hlt _ => s4 cb hlt, own := fun cb ho => .inl (s5 cb ho), znew := fun cb hz => .inl hz }
            obtain ⟨l1, l2, l3⟩ := leave f1.mem hmem' hev (ids := ids) (fun b _ x hx => (hids x).2 (TSh.putM_refs sr k y b x hx)) (fun b hb => by cases hb) (fun b hb => .inr (hfree b hb))
            refine ⟨_, joinB β β' ids, Z1, h1, ?_, ?_, ?_⟩ <;> rw [upds_append, upds_join]
            · have hrl : RL (joinB β β' ids) ((M2.upds u).join (TSh.putM sr k y) ids) Z1 w'.heap (resT sr k y sr.length) us := by
                refine ⟨by rw [h3, hcount fn h2]; simp [resT], fun t v u' hv hu' => ?_⟩
                have e : v = TSh.putT sr k y t := by
                  unfold resT at hv
                  rw [List.getElem?_map] at hv
                  cases hr : (List.range sr.length)[t]? with
                  | none => rw [hr] at hv; cases hv
                  | some q =>
                    rw [hr] at hv
                    have hlt := (List.getElem?_eq_some_iff.1 hr).1
                    have hq : q = t := by
                      have := (List.getElem?_eq_some_iff.1 hr).2
                      simp at this; exact this.symm
                    subst hq
                    simp at hv; exact hv.symm
                subst e
                have := h4 t
                have hg : us.getD t undef = u' := by simp [hu']
                rw [hg] at this
                exact l3 _ _ (this.zf (TSh.putT_zf sr k y t hfl)) fun b hb => (hids b).2 (TSh.putT_refs sr k y t b hb)
              exact retV_ok hrl
            · exact l1
            · exact f1.ev.trans ⟨l2, s6⟩
end
end Go.Pv
/-! ### Functions with a pointer to a variable of the caller's: what stands in it is typed data; the variable stays where it is. -/
namespace Go.Pv

/-! ### Frames whose first slot is the variable: it keeps its number, nought -/
def headZ : List (Option Nat) → Bool
  | some b :: _ => Nat.beq b 0
  | _ => false
def TSh.grabP (ρ : Nat → V) (M : Mem) (sh : TSh) : Option sh.den :=
  match TSh.frz sh ρ M with
  | (ρ, M) => match TSh.grab0 ρ M sh with
    | some (x, obs) => bif nodupO obs && headZ obs && (M 0).isBox then some x else none
    | none => none
def Say.LooseP (J : Say) : Prop := J.Kept ∧ ∀ {β M Z w β' M'}, J β M Z w → (∀ cb, owned β' M' cb → owned β M cb) → (M 0).gen = some 0 → (M' 0).gen = some 0 → β' 0 = β 0 → J β' M' Z w
theorem isBox_gen {k : Blk} (h : k.isBox = true) : k.gen = some 0 := by cases k <;> first | rfl | cases h
section
variable {β : Nat → Option Loc} {M : Mem} {Z : Nat → Prop}
/-- grabbed and put down: where each block lies -/
theorem TSh.okB {nt : Nat} {a : Act} {w : World} {M1 : Mem} {ρ1 : Nat → V} {Z1 : Nat → Prop} (hr1 : Rel β M1 Z1 nt ρ1 a w) {sh : TSh} {y : sh.den} {obs : List (Option Nat)} (h0 : TSh.grab0 ρ1 M1 sh = some (y, obs)) (hn : nodupO obs = true) (k : Nat) :
    ∃ β', Rel β' (TSh.putM sh k y) Z1 nt (TSh.putT sh k y) a w ∧ (∀ j, j < obs.length → β' (k + j) = locOf β (obs.getD j none)) ∧
      ∀ n cb, lies β' (TSh.putM sh k y) n cb → ∃ j b, j < obs.length ∧ n = k + j ∧ obs[j]? = some (some b) ∧ (M1 b).own = true ∧ lies β M1 b cb := by
  have hl := TSh.grab0_len sh h0
  let β' : Nat → Option Loc := fun n => if k ≤ n ∧ n - k < obs.length then locOf β (obs.getD (n - k) none) else none
  have hβ' : ∀ j, j < obs.length → β' (k + j) = locOf β (obs.getD j none) := fun j hj => by
    simp only [β']
    rw [if_pos ⟨by omega, by omega⟩]
    congr 2; omega
  obtain ⟨a1, a2⟩ := TSh.grab0_ok (β' := β') (M' := TSh.putM sh k y) hr1.mem hr1.tmps sh h0 k hβ' fun _ _ => rfl
  have inr : ∀ n, (TSh.putM sh k y n).gen ≠ none → ∃ j, j < obs.length ∧ n = k + j := fun n hne => by
    by_cases h1 : n < k
    · rw [TSh.putM_lt sh k y n h1] at hne; exact absurd rfl hne
    · by_cases h2 : k + sh.wid ≤ n
      · rw [TSh.putM_ge sh k y n h2] at hne; exact absurd rfl hne
      · exact ⟨n - k, by omega, by omega⟩
  have lie : ∀ n cb, lies β' (TSh.putM sh k y) n cb → ∃ j b, j < obs.length ∧ n = k + j ∧ obs[j]? = some (some b) ∧ (M1 b).own = true ∧ lies β M1 b cb := fun n cb hl' => by
    obtain ⟨j, hj, rfl⟩ := inr n hl'.1
    obtain ⟨b, q1, q2, q3⟩ := a2.from_ j hj cb hl'
    exact ⟨j, b, hj, rfl, getD_some q1, q2, q3⟩
  refine ⟨β', ⟨a1, hr1.size, ⟨fun n => ?_, fun b b' cb ho h1 h2 => ?_, fun cb hz ho => ?_, hr1.mem.zlt⟩⟩, hβ', lie⟩
  · by_cases h1 : n < k
    · unfold RB; rw [TSh.putM_lt sh k y n h1]; trivial
    · by_cases h2 : k + sh.wid ≤ n
      · unfold RB; rw [TSh.putM_ge sh k y n h2]; trivial
      · have := a2.rb (n - k) (by omega)
        rwa [show k + (n - k) = n by omega] at this
  · obtain ⟨j, c, _, rfl, q1, q2, q3⟩ := lie b cb h1
    obtain ⟨j', c', _, rfl, q1', q2', q3'⟩ := lie b' cb h2
    have := hr1.mem.sep c c' cb q2 q3 q3'
    subst this
    rw [nodupO_inj hn q1 q1']
  · obtain ⟨b, h1, h2⟩ := ho
    obtain ⟨j, c, _, rfl, q1, q2, q3⟩ := lie b cb h2
    exact hr1.mem.zown cb hz ⟨c, q2, q3⟩
theorem TSh.grabP_inv {ρ : Nat → V} {M : Mem} {sh : TSh} {x : sh.den} (hg : TSh.grabP ρ M sh = some x) : ∃ obs, TSh.grab0 (TSh.frz sh ρ M).1 (TSh.frz sh ρ M).2 sh = some (x, obs) ∧ nodupO obs = true ∧ obs[0]? = some (some 0) ∧ ((TSh.frz sh ρ M).2 0).isBox = true := by
  unfold TSh.grabP at hg
  generalize TSh.frz sh ρ M = fz at hg
  obtain ⟨ρ1, M1⟩ := fz
  simp only at hg
  cases h0 : TSh.grab0 ρ1 M1 sh with
  | none => rw [h0] at hg; cases hg
  | some p =>
    obtain ⟨y, obs⟩ := p
    rw [h0] at hg
    simp only at hg
    cases hn : nodupO obs && headZ obs && (M1 0).isBox with
    | false => rw [hn] at hg; cases hg
    | true =>
      rw [hn] at hg
      simp only [cond_true, Option.some.injEq] at hg
      subst hg
      simp only [Bool.and_eq_true] at hn
      obtain ⟨⟨h1, h2⟩, h3⟩ := hn
      refine ⟨obs, rfl, h1, ?_, h3⟩
      cases obs with
      | nil => cases h2
      | cons o r => cases o with
        | none => cases h2
        | some b => have := Nat.eq_of_beq_eq_true h2; subst this; rfl
/-- the first block's cells stand at the number k -/
theorem TSh.okK {nt : Nat} {ρ : Nat → V} {a : Act} {w : World} (hr : Rel β M Z nt ρ a w) {sh : TSh} {x : sh.den} (hg : TSh.grabP ρ M sh = some x) (k : Nat) :
    ∃ β' Z' M1, EvW β M Z w β M1 Z' w ∧ Rel β' (TSh.putM sh k x) Z' nt (TSh.putT sh k x) a w ∧ (∀ cb, owned β' (TSh.putM sh k x) cb → owned β M1 cb) ∧ (M1 0).gen = some 0 ∧ β' k = β 0 := by
  obtain ⟨obs, h0, hn, hz, hb⟩ := TSh.grabP_inv hg
  obtain ⟨Z1, hr1, hev⟩ := TSh.frz_ok sh hr
  obtain ⟨β', h1, h2, h3⟩ := TSh.okB hr1 h0 hn k
  have hlt : 0 < obs.length := (List.getElem?_eq_some_iff.1 hz).1
  refine ⟨β', Z1, _, hev, h1, fun cb ho => ?_, isBox_gen hb, ?_⟩
  · obtain ⟨b, g1, g2⟩ := ho
    obtain ⟨j, c, _, rfl, q1, q2, q3⟩ := h3 b cb g2
    exact ⟨c, q2, q3⟩
  · have := h2 0 hlt
    rw [Nat.add_zero] at this
    rw [this]
    simp [List.getD, hz, locOf]
theorem TSh.okP {nt : Nat} {ρ : Nat → V} {a : Act} {w : World} (hr : Rel β M Z nt ρ a w) {t : Nat} {q : Tr} {sh : TSh} {x : TSh.den (Sl.box t q :: sh)} (hg : TSh.grabP ρ M (Sl.box t q :: sh) = some x) :
    ∃ β' Z' M1, EvW β M Z w β M1 Z' w ∧ Rel β' (TSh.putM (Sl.box t q :: sh) 0 x) Z' nt (TSh.putT (Sl.box t q :: sh) 0 x) a w ∧ (∀ cb, owned β' (TSh.putM (Sl.box t q :: sh) 0 x) cb → owned β M1 cb) ∧ (M1 0).gen = some 0 ∧ (TSh.putM (Sl.box t q :: sh) 0 x 0).gen = some 0 ∧ β' 0 = β 0 := by
  obtain ⟨β', Z', M1, h1, h2, h3, h4, h5⟩ := TSh.okK hr hg 0
  refine ⟨β', Z', M1, h1, h2, h3, h4, ?_, h5⟩
  simp only [TSh.putM, Tr.wid]
  rw [blt_iff.2 (by omega)]
  simp only [cond_true, Tr.mem, beq_self]
  rfl
end
/-- a loop in such a function: the variable's slot, what stands in the variable; the other slots -/
structure LoopP where
  id : Nat
  tmp : Nat
  tr : Tr
  inv : TSh
  out : TSh
  ret : TSh
@[reducible] def LoopP.i (l : LoopP) : TSh := Sl.box l.tmp l.tr :: l.inv
@[reducible] def LoopP.o (l : LoopP) : TSh := Sl.box l.tmp l.tr :: l.out
@[reducible] def LoopP.r (l : LoopP) : TSh := Sl.box l.tmp l.tr :: l.ret
def findP (id : Nat) : List LoopP → Option LoopP
  | [] => none
  | ls :: r => bif Nat.beq ls.id id then some ls else findP id r
def stepPt (T : TypeId → TT) (callE : (R : Type) → CallE R) (nt : Nat) (hook : (R : Type) → HookE R) (fuel : Nat) (ls : LoopP) (body : Code) (x : ls.i.den) : Option (ls.i.den ⊕ (ls.o.den ⊕ ls.r.den)) :=
  codeE T (callE _) nt (hook _) fuel body (TSh.putT ls.i 0 x) (TSh.putM ls.i 0 x) ls.i.wid fun ex ρ M _ =>
    match ex with
    | .normal => match TSh.grabP ρ M ls.i with
      | some x => some (.inl x)
      | none => none
    | .exit id => bif Nat.beq id ls.id then (match TSh.grabP ρ M ls.o with
      | some y => some (.inr (.inl y))
      | none => none) else none
    | .ret => match TSh.grabP ρ M ls.r with
      | some y => some (.inr (.inr y))
      | none => none

noncomputable def loopHPt {R : Type} (T : TypeId → TT) (callE : (R : Type) → CallE R) (nt : Nat) (hook : (R : Type) → HookE R) (fuel : Nat) (ls : LoopP) (body : Code) : (Nat → V) → Mem → Nat → Kont R → Option R := fun ρ M _ K =>
  match TSh.grabP ρ M ls.i with
  | none => none
  | some x => match lim (stepPt T callE nt hook fuel ls body) x with
    | none => none
    | some (.inl y) => K .normal (TSh.putT ls.o 0 y) (TSh.putM ls.o 0 y) ls.o.wid
    | some (.inr y) => K .ret (TSh.putT ls.r 0 y) (TSh.putM ls.r 0 y) ls.r.wid

noncomputable def hookPt (T : TypeId → TT) (callE : (R : Type) → CallE R) (fuel : Nat) (lts : List LoopP) (sps : List Split) (nt : Nat) : Nat → (R : Type) → HookE R
  | 0 => fun _ _ => none
  | n + 1 => fun R code => match code with
    | .block id (.loop body) => match findP id lts with
      | some ls => some (loopHPt T callE nt (hookPt T callE fuel lts sps nt n) fuel ls body)
      | none => none
    | .region id ops dr => match findSp id sps with
      | some s => some (splitH T (callE R) nt fuel s (.region id ops dr))
      | none => none
    | _ => none

section
variable {P : Program} {T : TypeId → TT} {R : Type} {nt : Nat}
theorem stepPt_ok (hT : TOK P T) (hm : P.follows .mixedOrders = true) {callE : (R : Type) → CallE R} (hcall : ∀ R, CallsOK P (callE R)) {hook : (R : Type) → HookE R} (hh : ∀ R, HookOK P nt Say.LooseP (hook R))
    {fuel : Nat} {ls : LoopP} {body : Code} {Q : Exit → Act → World → Prop} {J : Say} (hJ : J.LooseP) {y : ls.o.den ⊕ ls.r.den} :
    ∀ (n : Nat) (x : ls.i.den), iter (stepPt T callE nt hook fuel ls body) n x = some y → ∀ (β : Nat → Option Loc) (Z : Nat → Prop) (a : Act) (w : World),
      Rel β (TSh.putM ls.i 0 x) Z nt (TSh.putT ls.i 0 x) a w → J β (TSh.putM ls.i 0 x) Z w →
      (∀ β' Z' a' w', (match y with
        | .inl y => Rel β' (TSh.putM ls.o 0 y) Z' nt (TSh.putT ls.o 0 y) a' w' ∧ J β' (TSh.putM ls.o 0 y) Z' w'
        | .inr y => Rel β' (TSh.putM ls.r 0 y) Z' nt (TSh.putT ls.r 0 y) a' w' ∧ J β' (TSh.putM ls.r 0 y) Z' w') → a'.defers = a.defers →
        match y with
        | .inl _ => Q .normal a' w'
        | .inr _ => Q .ret a' w') → Rounds P body (Exit.inBlock ls.id Q) n a w
  | 0, x, h => by cases h
  | n + 1, x, h => by
    intro β Z a w hr hj hQ
    simp only [iter] at h
    cases hs : stepPt T callE nt hook fuel ls body x with
    | none => rw [hs] at h; cases h
    | some z =>
      rw [hs] at h
      obtain ⟨ex, ρ', M', nx', hk, hw⟩ := codeE_ok (𝒥 := Say.LooseP) hT hm (hcall _) (fun J h => h.1) (hh _) fuel body _ _ _ _ _ hs
      refine hw J hJ β Z a w _ hr hj fun β' Z' a' w' hr' hj' hd => ?_
      cases ex with
      | normal =>
        simp only at hk
        cases hg : TSh.grabP ρ' M' ls.i with
        | none => rw [hg] at hk; cases hk
        | some x' =>
          rw [hg] at hk
          cases hk
          obtain ⟨β2, Z2, M2, he, h1, h2, q5, q6, q7⟩ := TSh.okP hr' hg
          exact stepPt_ok hT hm hcall hh hJ n x' h β2 Z2 a' w' h1 (hJ.2 (hJ.1 hj' he) h2 q5 q6 q7) fun β3 Z3 a3 w3 q1 q2 => hQ β3 Z3 a3 w3 q1 (q2.trans hd)
      | exit id =>
        simp only at hk
        cases hb : Nat.beq id ls.id with
        | false => rw [hb] at hk; cases hk
        | true =>
          rw [hb] at hk
          simp only [cond_true] at hk
          have := Nat.eq_of_beq_eq_true hb
          subst this
          cases hg : TSh.grabP ρ' M' ls.o with
          | none => rw [hg] at hk; cases hk
          | some y' =>
            rw [hg] at hk
            cases hk
            simp only [Option.some.injEq] at h
            subst h
            obtain ⟨β2, Z2, M2, he, h1, h2, q5, q6, q7⟩ := TSh.okP hr' hg
            have := hQ β2 Z2 a' w' ⟨h1, hJ.2 (hJ.1 hj' he) h2 q5 q6 q7⟩ hd
            simpa [Ex.out, Exit.then, Exit.inBlock] using this
      | ret =>
        simp only at hk
        cases hg : TSh.grabP ρ' M' ls.r with
        | none => rw [hg] at hk; cases hk
        | some y' =>
          rw [hg] at hk
          cases hk
          simp only [Option.some.injEq] at h
          subst h
          obtain ⟨β2, Z2, M2, he, h1, h2, q5, q6, q7⟩ := TSh.okP hr' hg
          have := hQ β2 Z2 a' w' ⟨h1, hJ.2 (hJ.1 hj' he) h2 q5 q6 q7⟩ hd
          simpa [Ex.out, Exit.then, Exit.inBlock] using this

theorem loopHPt_ok (hT : TOK P T) (hm : P.follows .mixedOrders = true) {callE : (R : Type) → CallE R} (hcall : ∀ R, CallsOK P (callE R)) {hook : (R : Type) → HookE R} (hh : ∀ R, HookOK P nt Say.LooseP (hook R))
    {fuel : Nat} {ls : LoopP} {body : Code} : CodeOK (R := R) P nt Say.LooseP (.block ls.id (.loop body)) (loopHPt T callE nt hook fuel ls body) := by
  intro ρ M nx K r h
  unfold loopHPt at h
  cases hg : TSh.grabP ρ M ls.i with
  | none => rw [hg] at h; cases h
  | some x =>
    rw [hg] at h
    simp only at h
    cases hl : lim (stepPt T callE nt hook fuel ls body) x with
    | none => rw [hl] at h; cases h
    | some y =>
      rw [hl] at h
      obtain ⟨n, hn⟩ := lim_some.1 hl
      cases y with
      | inl y =>
        refine ⟨_, _, _, _, h, fun J hJ β Z a w Q hr hj hQ => ?_⟩
        obtain ⟨β2, Z2, M2, he, h1, h2, q5, q6, q7⟩ := TSh.okP hr hg
        exact wp_block (wp_rounds (stepPt_ok hT hm hcall hh hJ n x hn β2 Z2 a w h1 (hJ.2 (hJ.1 hj he) h2 q5 q6 q7) fun β' Z' a' w' q1 q2 => hQ β' Z' a' w' q1.1 q1.2 q2))
      | inr y =>
        refine ⟨_, _, _, _, h, fun J hJ β Z a w Q hr hj hQ => ?_⟩
        obtain ⟨β2, Z2, M2, he, h1, h2, q5, q6, q7⟩ := TSh.okP hr hg
        exact wp_block (wp_rounds (stepPt_ok hT hm hcall hh hJ n x hn β2 Z2 a w h1 (hJ.2 (hJ.1 hj he) h2 q5 q6 q7) fun β' Z' a' w' q1 q2 => hQ β' Z' a' w' q1.1 q1.2 q2))

theorem splitGoP_ok (hT : TOK P T) (hm : P.follows .mixedOrders = true) {callE : CallE R} (hcall : CallsOK P callE) {fuel t : Nat} {k : IntKind} {n : Int} {code : Code} : ∀ {vals : List Int} {ρ : Nat → V} {M : Mem} {nx : Nat} {K : Kont R} {r : R},
    ρ t = .int k n → splitGo T callE nt fuel t k n code vals ρ M nx K = some r → ∃ ex ρ' M' nx', K ex ρ' M' nx' = some r ∧
    ∀ (J : Say), Say.LooseP J → ∀ (β : Nat → Option Loc) (Z : Nat → Prop) (a : Act) (w : World) (Q : Exit → Act → World → Prop), Rel β M Z nt ρ a w → J β M Z w →
      (∀ β' Z' a' w', Rel β' M' Z' nt ρ' a' w' → J β' M' Z' w' → a'.defers = a.defers → Q ex.out a' w') → code.wp P Q a w
  | [], ρ, M, nx, K, r, _, h => by cases h
  | v :: vs, ρ, M, nx, K, r, ht, h => by
    simp only [splitGo] at h
    cases hd : decide (n = v) with
    | false => rw [hd] at h; exact splitGoP_ok hT hm hcall ht h
    | true =>
      rw [hd] at h
      have := of_decide_eq_true hd
      subst this
      obtain ⟨ex, ρ', M', nx', hk, hw⟩ := codeE_ok (𝒥 := Say.LooseP) hT hm hcall (fun J h => h.1) (noHook_ok (P := P) (nt := nt) (𝒥 := Say.LooseP)) fuel code _ _ _ _ _ h
      exact ⟨ex, ρ', M', nx', hk, fun J hJ β Z a w Q hr hj hQ => hw J hJ β Z a w Q (hr.know ht) hj hQ⟩

theorem findP_id : ∀ {lss : List LoopP} {id : Nat} {ls : LoopP}, findP id lss = some ls → ls.id = id
  | [], _, _, h => by cases h
  | l :: r, id, ls, h => by
    simp only [findP] at h
    cases hb : Nat.beq l.id id with
    | true => rw [hb] at h; cases h; exact Nat.eq_of_beq_eq_true hb
    | false => rw [hb] at h; exact findP_id h
theorem hookPt_ok (hT : TOK P T) (hm : P.follows .mixedOrders = true) {callE : (R : Type) → CallE R} (hcall : ∀ R, CallsOK P (callE R)) {fuel : Nat} {lts : List LoopP} {sps : List Split} :
    ∀ (n : Nat) (R : Type), HookOK P nt Say.LooseP (hookPt T callE fuel lts sps nt n R)
  | 0, R => fun code h hh => by cases hh
  | n + 1, R => fun code h hh => by
    unfold hookPt at hh
    split at hh
    · rename_i id body
      cases hf : findP id lts with
      | none => rw [hf] at hh; cases hh
      | some ls =>
        rw [hf] at hh
        cases hh
        have := findP_id hf
        subst this
        exact loopHPt_ok hT hm hcall (hookPt_ok hT hm hcall n)
    · rename_i id ops dr
      cases hf : findSp id sps with
      | none => rw [hf] at hh; cases hh
      | some s =>
        rw [hf] at hh
        cases hh
        intro ρ M nx K r h
        unfold splitH at h
        split at h
        · rename_i k m ht
          exact splitGoP_ok hT hm (hcall R) ht h
        · cases h
    · cases hh

end
end Go.Pv
/-! ### Functions whose first argument is a pointer to a variable of the caller's: by themselves, and what a caller is told of them. -/
namespace Go.Pv
/-- what has become of the world since a call began that may write the blocks O -/
def SinceO (w0 : World) (Z0 : Nat → Prop) (O : Nat → Prop) (β : Nat → Option Loc) (M : Mem) (Z : Nat → Prop) (w : World) : Prop :=
  (∀ cb, Z0 cb → Z cb) ∧ (∀ cb, Z cb → Z0 cb ∨ w0.heap.size ≤ cb ∨ O cb) ∧ w0.heap.size ≤ w.heap.size ∧ (∀ cb, cb < w0.heap.size → ¬ O cb → w.heap[cb]? = w0.heap[cb]?) ∧
    (∀ cb, owned β M cb → w0.heap.size ≤ cb ∨ O cb) ∧ Wd w0 w
def SinceP (w0 : World) (Z0 : Nat → Prop) (O : Nat → Prop) (l : Option Loc) : Say := fun β M Z w => SinceO w0 Z0 O β M Z w ∧ M 0 ≠ .none ∧ ((M 0).gen = some 0 → β 0 = l)
theorem SinceO.kept {w0 : World} {Z0 O : Nat → Prop} {β β' : Nat → Option Loc} {M M' : Mem} {Z Z' : Nat → Prop} {w w' : World} (h : SinceO w0 Z0 O β M Z w) (ev : EvW β M Z w β' M' Z' w') : SinceO w0 Z0 O β' M' Z' w' := by
  obtain ⟨h1, h2, h3, h4, h5, h6⟩ := h
  refine ⟨fun cb hz => ev.zmono cb (h1 cb hz), fun cb hz => ?_, Nat.le_trans h3 ev.size, fun cb hlt hO => ?_, fun cb ho => ?_, h6.trans ev.wd⟩
  · rcases ev.znew cb hz with h | h | h
    · exact h2 cb h
    · exact .inr (.inl (Nat.le_trans h3 h))
    · exact .inr (h5 cb h)
  · rw [ev.frame cb (Nat.lt_of_lt_of_le hlt h3) (fun ho => by
      rcases h5 cb ho with h | h
      · omega
      · exact hO h), h4 cb hlt hO]
  · rcases ev.own cb ho with h | h
    · exact .inl (Nat.le_trans h3 h)
    · exact h5 cb h
theorem SinceO.sub {w0 : World} {Z0 O : Nat → Prop} {β β' : Nat → Option Loc} {M M' : Mem} {Z : Nat → Prop} {w : World} (h : SinceO w0 Z0 O β M Z w) (ho : ∀ cb, owned β' M' cb → owned β M cb) : SinceO w0 Z0 O β' M' Z w :=
  ⟨h.1, h.2.1, h.2.2.1, h.2.2.2.1, fun cb hc => h.2.2.2.2.1 cb (ho cb hc), h.2.2.2.2.2⟩
theorem SinceP.loose (w0 : World) (Z0 O : Nat → Prop) (l : Option Loc) : (SinceP w0 Z0 O l).LooseP := by
  constructor
  · intro β M Z w β' M' Z' w' ⟨h, hn, hl⟩ ev
    refine ⟨h.kept ev, ev.nn 0 hn, fun hg => ?_⟩
    cases hm : (M 0).gen with
    | none => rw [ev.gone 0 hn hm] at hg; cases hg
    | some g =>
      obtain ⟨a1, a2⟩ := ev.gens 0 g hm 0 hg
      have e : g = 0 := by omega
      subst e
      rw [(a2 rfl).1]; exact hl hm
  · intro β M Z w β' M' ⟨h, hn, hl⟩ ho h0 h1 h2
    exact ⟨h.sub ho, (fun e => by rw [e] at h1; cases h1), fun _ => by rw [h2]; exact hl h0⟩

noncomputable section
/-- a function by itself: its first argument is a pointer to a variable in which x stands -/
def evalP (P : Program) (T : TypeId → TT) (callE : (R : Type) → CallE R) (lts : List LoopP) (sps : List Split) (f : FuncId) (t : Tr) (sa : Sig) (sr : TSh) (x : t.den) (y : sa.den) : Option (t.den × sr.den) :=
  match P.funcs[f]? with
  | none => none
  | some fn => match fn.body with
    | none => none
    | some code => bif Nat.ble (argsV sa y).length.succ fn.ntmps then
        codeE T (callE _) fn.ntmps (hookPt T callE 100000 lts sps fn.ntmps 5 _) 100000 code (paramsE (.ptr 0 0 0 0 :: argsV sa y) 0) (TSh.putM [Sl.box 0 t] 0 (x, ())) (t.wid + 1) fun ex ρ M _ => match ex with
          | .exit _ => none
          | _ => match resE T ρ M fn.results.toList with
            | none => none
            | some vs => bif (M 0).isBox then TSh.grabP (paramsE (.ptr 0 0 0 0 :: vs) 0) M (Sl.box 0 t :: sr) else none
      else none
end
/-- what is known of such a function -/
def FnP (P : Program) (f : FuncId) (t : Tr) (sa : Sig) (sr : TSh) (F : t.den → sa.den → Option (t.den × sr.den)) : Prop :=
  ∀ x y z, F x y = some z → Callable P f ∧ ∀ (k : Nat) (β : Nat → Option Loc) (Z : Nat → Prop) (w : World) (v : Value) (cargs : List Value),
    RMem β (TSh.putM [Sl.box 0 t] 0 (x, ())) Z w.heap → RV β (TSh.putM [Sl.box 0 t] 0 (x, ())) Z w.heap (.ptr 0 0 0 0) v → RL β (TSh.putM [Sl.box 0 t] 0 (x, ())) Z w.heap (argsV sa y) cargs →
    Calls P f (v :: cargs).toArray w fun e w' => ∃ us β' Z', e = .returned (retVal us) ∧ (∃ fn, P.funcs[f]? = some fn ∧ us.length = fn.results.size) ∧
      (∀ i, RV β' (TSh.putM (Sl.box 0 t :: sr) k z) Z' w'.heap (TSh.putT (Sl.box 0 t :: sr) k z i) ((v :: us).getD i undef)) ∧
      RMem β' (TSh.putM (Sl.box 0 t :: sr) k z) Z' w'.heap ∧ β' k = β 0 ∧ SinceO w Z (owned β (TSh.putM [Sl.box 0 t] 0 (x, ()))) β' (TSh.putM (Sl.box 0 t :: sr) k z) Z' w'
theorem putM_box0 (t : Tr) (sh : TSh) (x : TSh.den (Sl.box 0 t :: sh)) : TSh.putM (Sl.box 0 t :: sh) 0 x 0 = .box (t.cells 1 x.1) := by
  simp only [TSh.putM, Tr.wid]
  rw [blt_iff.2 (by omega)]
  simp only [cond_true, Tr.mem, beq_self]
section
variable {P : Program} {T : TypeId → TT}
theorem evalP_ok (hT : TOK P T) (hm : P.follows .mixedOrders = true) (hname : ∀ (f : FuncId) fn, P.funcs[f]? = some fn → (fn.name == "runtime.NumGoroutine") = false)
    {f : FuncId} {t : Tr} {sa : Sig} {sr : TSh} {F : t.den → sa.den → Option (t.den × sr.den)}
    (hF : ∀ x y z, F x y = some z → ∃ (callE : (R : Type) → CallE R) (lts : List LoopP) (sps : List Split), (∀ R, CallsOK P (callE R)) ∧ evalP P T callE lts sps f t sa sr x y = some z) : FnP P f t sa sr F := by
  intro x y z h
  obtain ⟨callE, lts, sps, hcall, h⟩ := hF x y z h
  unfold evalP at h
  cases hf : P.funcs[f]? with
  | none => rw [hf] at h; cases h
  | some fn =>
    rw [hf] at h
    simp only at h
    cases hb : fn.body with
    | none => rw [hb] at h; cases h
    | some code =>
      rw [hb] at h
      simp only at h
      cases hn : Nat.ble (argsV sa y).length.succ fn.ntmps with
      | false => rw [hn] at h; cases h
      | true =>
        rw [hn] at h
        simp only [cond_true] at h
        have hn := Nat.le_of_ble_eq_true hn
        refine ⟨⟨fn, hf, by rw [hb]; rfl, hname f fn hf⟩, fun k β Z w v cargs hmem hv hargs => ?_⟩
        obtain ⟨ex, ρ', M', nx', hk, hw⟩ := codeE_ok (𝒥 := Say.LooseP) hT hm (hcall _) (fun J h => h.1) (hookPt_ok (lts := lts) (sps := sps) hT hm hcall 5 _) 100000 code _ _ _ _ _ h
        have hex : ∀ id, ex ≠ .exit id := fun id e => by subst e; cases hk
        have hk' : (match resE T ρ' M' fn.results.toList with
            | none => none
            | some vs => bif (M' 0).isBox then TSh.grabP (paramsE (.ptr 0 0 0 0 :: vs) 0) M' (Sl.box 0 t :: sr) else none) = some z := by
          cases ex with
          | normal => exact hk
          | exit id => exact absurd rfl (hex id)
          | ret => exact hk
        cases hres : resE T ρ' M' fn.results.toList with
        | none => rw [hres] at hk'; cases hk'
        | some vs =>
          rw [hres] at hk'
          simp only at hk'
          cases hbx : (M' 0).isBox with
          | false => rw [hbx] at hk'; cases hk'
          | true =>
          rw [hbx] at hk'
          simp only [cond_true] at hk'
          have hall : RL β (TSh.putM [Sl.box 0 t] 0 (x, ())) Z w.heap (.ptr 0 0 0 0 :: argsV sa y) (v :: cargs) := RL.cons hv hargs
          have hrel : Rel β (TSh.putM [Sl.box 0 t] 0 (x, ())) Z fn.ntmps (paramsE (.ptr 0 0 0 0 :: argsV sa y) 0) { tmps := (v :: cargs).toArray ++ Array.replicate (fn.ntmps - (v :: cargs).toArray.size) undef, defers := [] } w :=
            Rel.begin hmem (by simpa using hall) (by simpa using hn)
          have h00 := putM_box0 t [] (x, ())
          have hs0 : SinceP w Z (owned β (TSh.putM [Sl.box 0 t] 0 (x, ()))) (β 0) β (TSh.putM [Sl.box 0 t] 0 (x, ())) Z w :=
            ⟨⟨fun _ h => h, fun _ h => .inl h, Nat.le_refl _, fun _ _ _ => rfl, fun cb ho => .inr ho, Wd.refl _⟩, (fun e => by rw [h00] at e; cases e), fun _ => rfl⟩
          have hp0 : PtrOk (TSh.putM [Sl.box 0 t] 0 (x, ()) 0) (β 0) 0 0 v := by
            cases hv with | ptr _ _ _ _ _ _ _ hh => exact (hh 0 (by rw [h00]; rfl)).2 rfl
          have h1v : v.oneCell' = true := by cases hv; assumption
          refine calls_of_wp hf hb (hw (SinceP w Z (owned β (TSh.putM [Sl.box 0 t] 0 (x, ()))) (β 0)) (SinceP.loose w Z _ _) β Z _ w _ hrel hs0 fun β' Z' a' w' hr' hj' hd => ?_)
          obtain ⟨us, hus, hrl⟩ := resE_ok hT _ _ hres hr'
          have hrun : (results fn a'.tmps).run P w' = .ok (retVal us) w' := by
            rw [results_eq, Sem.run_bind, Array.mapM_eq_mapM_toList, Sem.run_map, hus]
            rfl
          have hg0 : (M' 0).gen = some 0 := isBox_gen hbx
          have hl0 : β' 0 = β 0 := hj'.2.2 hg0
          have hv' : RV β' M' Z' w'.heap (.ptr 0 0 0 0) v := .ptr 0 0 0 0 v h1v hj'.2.1 fun g0 hg => by
            rw [hg0] at hg; cases hg
            refine ⟨Nat.le_refl _, fun _ => hp0.of_eq ?_ hl0⟩
            rw [h00]
            cases hm0 : M' 0 <;> rw [hm0] at hbx <;> first | rfl | cases hbx
          have hrel2 : Rel β' M' Z' (us.length + 1) (paramsE (.ptr 0 0 0 0 :: vs) 0) { tmps := (v :: us).toArray, defers := [] } w' := by
            have := Rel.begin (n := us.length + 1) hr'.mem (args := .ptr 0 0 0 0 :: vs) (vs := (v :: us).toArray) (by simpa using RL.cons hv' hrl) (by simp [hrl.1])
            simpa using this
          obtain ⟨β2, Z2, M2, he, g1, g2, _, g3⟩ := TSh.okK hrel2 hk' k
          have hlen : us.length = fn.results.size := by rw [← hrl.1, resE_length hres]; simp
          have hpost : a'.defers = [] ∧ ∃ u, (results fn a'.tmps).run P w' = .ok u w' ∧ ∃ us β' Z', (Ending.returned u) = .returned (retVal us) ∧ (∃ fn', some fn = some fn' ∧ us.length = fn'.results.size) ∧
              (∀ i, RV β' (TSh.putM (Sl.box 0 t :: sr) k z) Z' w'.heap (TSh.putT (Sl.box 0 t :: sr) k z i) ((v :: us).getD i undef)) ∧
              RMem β' (TSh.putM (Sl.box 0 t :: sr) k z) Z' w'.heap ∧ β' k = β 0 ∧ SinceO w Z (owned β (TSh.putM [Sl.box 0 t] 0 (x, ()))) β' (TSh.putM (Sl.box 0 t :: sr) k z) Z' w' := by
            refine ⟨hd, _, hrun, us, β2, Z2, rfl, ⟨fn, rfl, hlen⟩, fun i => ?_, g1.mem, by rw [g3, hl0], (hj'.1.kept he).sub g2⟩
            have := g1.tmps i
            simpa using this
          cases ex with
          | normal => exact hpost
          | exit id => exact absurd rfl (hex id)
          | ret => exact hpost
end
/-! ### What a caller is told -/
def somesN : List (Option Nat) → List Nat
  | [] => []
  | none :: r => somesN r
  | some b :: r => b :: somesN r
theorem somesN_mem {b : Nat} : ∀ {l : List (Option Nat)}, b ∈ somesN l ↔ some b ∈ l
  | [] => by simp [somesN]
  | none :: r => by simp only [somesN, List.mem_cons, reduceCtorEq, false_or]; exact somesN_mem
  | some x :: r => by simp only [somesN, List.mem_cons, Option.some.injEq, somesN_mem]
/-- the caller's blocks behind the call -/
def backM (b k : Nat) (t : Tr) (sr : TSh) (z : TSh.den (Sl.box 0 t :: sr)) : Mem := fun n => bif Nat.beq n b then .box (t.cells (k + 1) z.1) else bif Nat.blt n k then .dead else TSh.putM (Sl.box 0 t :: sr) k z n
def resP (t : Tr) (sr : TSh) (k : Nat) (z : TSh.den (Sl.box 0 t :: sr)) (n : Nat) : List V := (List.range n).map fun i => TSh.putT (Sl.box 0 t :: sr) k z (i + 1)
def specP {R : Type} (t : Tr) (sa : Sig) (sr : TSh) (F : t.den → sa.den → Option (t.den × sr.den)) : List V → Mem → Nat → (Eff → Option R) → Option R := fun args M id c =>
  match args with
  | [] => none
  | p :: args => match p with
    | .ptr b i j g => match M b with
      | .box cells => bif Nat.beq i 0 && Nat.beq j 0 && Nat.beq g 0 then (match t.grab M cells with
        | none => none
        | some (x, q, obs) => match q with
          | _ :: _ => none
          | [] => bif nodupO (some b :: obs) then (match argsG M sa args with
            | none => none
            | some (y, fps) => match fps with
              | _ :: _ => none
              | [] => match F x y with
                | none => none
                | some z => forceN ((id + 1) * 100000) fun k => forceNs (b :: somesN obs) fun old => forceNs ((List.range (t.wid + sr.wid)).map fun j => k + 1 + j) fun ids =>
                  bif ids.all (fun n => (M n).isNone) && old.all (fun n => Nat.blt n k) && Nat.beq cells.length (t.cells (k + 1) z.1).length then
                    c { val := retV (resP t sr k z sr.length), upd := (old ++ ids).map fun n => (n, backM b k t sr z n), fp := old ++ ids } else none) else none) else none
      | _ => none
    | _ => none
section
variable {β β' : Nat → Option Loc} {M M' : Mem} {Z Z' : Nat → Prop} {h h' : Heap}
theorem Tr.grab_congr : ∀ (t : Tr) {cs : List V} {x : t.den} {rest : List V} {obs : List (Option Nat)}, t.grab M cs = some (x, rest, obs) → (∀ b, some b ∈ obs → M' b = M b) → t.grab M' cs = some (x, rest, obs)
  | .unit, cs, x, rest, obs, hg, _ => hg
  | .dat τ, cs, x, rest, obs, hg, _ => hg
  | .row τ, cs, x, rest, obs, hg, hM => by
    simp only [Tr.grab] at hg ⊢
    split at hg
    · cases hg
    · split at hg
      · exact hg
      · rename_i b i m g
        have key : ∀ (k : Blk), M b = k → (∀ τ' l g', k = .row τ' l g' false → some b ∈ obs) → M' b = M b → True := fun _ _ _ _ => trivial
        cases hb : M b with
        | row τ' l g' ro =>
          rw [hb] at hg
          cases ro with
          | true => cases hg
          | false =>
            simp only at hg
            split at hg
            · rename_i e
              cases hq : Nat.beq g g' && Nat.beq i 0 with
              | false => rw [hq] at hg; cases hg
              | true =>
                rw [hq] at hg
                simp only [cond_true, Option.some.injEq, Prod.mk.injEq] at hg
                have hMb := hM b (by rw [← hg.2.2]; simp)
                simp only [hMb, hb, dif_pos e, hq, cond_true, Option.some.injEq, Prod.mk.injEq]
                exact hg
            · cases hg
        | none => rw [hb] at hg; cases hg
        | dead => rw [hb] at hg; cases hg
        | box _ => rw [hb] at hg; cases hg
        | mp _ _ _ => rw [hb] at hg; cases hg
      · cases hg
  | .mp q τ, cs, x, rest, obs, hg, hM => by
    simp only [Tr.grab] at hg ⊢
    split at hg
    · cases hg
    · split at hg
      · rename_i b
        cases hb : M b with
        | mp q' τ' l =>
          rw [hb] at hg
          simp only at hg
          split at hg
          · rename_i e
            simp only [Option.some.injEq, Prod.mk.injEq] at hg
            have hMb := hM b (by rw [← hg.2.2]; simp)
            simp only [hMb, hb, dif_pos e, Option.some.injEq, Prod.mk.injEq]
            exact hg
          · cases hg
        | none => rw [hb] at hg; cases hg
        | dead => rw [hb] at hg; cases hg
        | box _ => rw [hb] at hg; cases hg
        | row _ _ _ _ => rw [hb] at hg; cases hg
      · cases hg
  | .box t, cs, x, rest, obs, hg, hM => by
    simp only [Tr.grab] at hg ⊢
    split at hg
    · cases hg
    · split at hg
      · rename_i b i j g
        cases hb : M b with
        | box cells =>
          rw [hb] at hg
          simp only at hg
          cases hq : Nat.beq i 0 && Nat.beq j 0 with
          | false => rw [hq] at hg; cases hg
          | true =>
            rw [hq] at hg
            simp only [cond_true] at hg
            cases ht : t.grab M cells with
            | none => rw [ht] at hg; cases hg
            | some p =>
              obtain ⟨y, q, o⟩ := p
              rw [ht] at hg
              cases q with
              | cons _ _ => cases hg
              | nil =>
                simp only [Option.some.injEq, Prod.mk.injEq] at hg
                have hMb := hM b (by rw [← hg.2.2]; simp)
                have := t.grab_congr ht fun b' hb' => hM b' (by rw [← hg.2.2]; simp [hb'])
                simp only [hMb, hb, hq, cond_true, this, Option.some.injEq, Prod.mk.injEq]
                exact hg
        | none => rw [hb] at hg; cases hg
        | dead => rw [hb] at hg; cases hg
        | mp _ _ _ => rw [hb] at hg; cases hg
        | row _ _ _ _ => rw [hb] at hg; cases hg
      · cases hg
  | .fn f a, cs, x, rest, obs, hg, hM => by
    simp only [Tr.grab] at hg ⊢
    split at hg
    · cases hg
    · split at hg
      · rename_i f' cap
        cases hq : Nat.beq f f' with
        | false => rw [hq] at hg; cases hg
        | true =>
          rw [hq] at hg
          simp only [cond_true] at hg ⊢
          cases ht : a.grab M cap with
          | none => rw [ht] at hg; cases hg
          | some p =>
            obtain ⟨y, q, o⟩ := p
            rw [ht] at hg
            cases q with
            | cons _ _ => cases hg
            | nil =>
              simp only [Option.some.injEq, Prod.mk.injEq] at hg
              have h2 := a.grab_congr ht fun b hb => hM b (by rw [← hg.2.2]; exact hb)
              rw [h2]
              simp only [Option.some.injEq, Prod.mk.injEq]
              exact hg
      · cases hg
  | .pair a b, cs, x, rest, obs, hg, hM => by
    simp only [Tr.grab] at hg ⊢
    cases ha : a.grab M cs with
    | none => rw [ha] at hg; cases hg
    | some p =>
      obtain ⟨y, r, o1⟩ := p
      rw [ha] at hg
      simp only at hg
      cases hb : b.grab M r with
      | none => rw [hb] at hg; cases hg
      | some p2 =>
        obtain ⟨z, r', o2⟩ := p2
        rw [hb] at hg
        simp only [Option.some.injEq, Prod.mk.injEq] at hg
        rw [a.grab_congr ha fun b' hb' => hM b' (by rw [← hg.2.2]; simp [hb'])]
        simp only
        rw [b.grab_congr hb fun b' hb' => hM b' (by rw [← hg.2.2]; simp [hb'])]
        simp only [Option.some.injEq, Prod.mk.injEq]
        exact hg
end
end Go.Pv
/-! ### What a caller is told of a function that is handed a pointer to its variable: it is right. -/
namespace Go.Pv
theorem forceNs_eq' {R : Type} (l : List Nat) (k : List Nat → Option R) : forceNs l k = k l := forceNs_eq l k
/-- the blocks of the call -/
theorem backM_b {b k : Nat} {t : Tr} {sr : TSh} {z : TSh.den (Sl.box 0 t :: sr)} : backM b k t sr z b = .box (t.cells (k + 1) z.1) := by simp [backM]
theorem backM_old {b k n : Nat} {t : Tr} {sr : TSh} {z : TSh.den (Sl.box 0 t :: sr)} (hn : n ≠ b) (hk : n < k) : backM b k t sr z n = .dead := by
  simp [backM, beq_ne hn, blt_iff.2 hk]
theorem backM_new {b k n : Nat} {t : Tr} {sr : TSh} {z : TSh.den (Sl.box 0 t :: sr)} (hb : b < k) (hk : k ≤ n) : backM b k t sr z n = TSh.putM (Sl.box 0 t :: sr) k z n := by
  simp [backM, beq_ne (show n ≠ b by omega), blt_false hk]
theorem putM_at {k : Nat} {t : Tr} {sr : TSh} {z : TSh.den (Sl.box 0 t :: sr)} : TSh.putM (Sl.box 0 t :: sr) k z k = .box (t.cells (k + 1) z.1) := by
  simp only [TSh.putM, Tr.wid]
  rw [blt_iff.2 (by omega)]
  simp only [cond_true, Tr.mem, beq_self]
/-- behind the first number no block names the first -/
theorem putM_refs1 {k : Nat} {t : Tr} {sr : TSh} {z : TSh.den (Sl.box 0 t :: sr)} {n b : Nat} (hn : k < n) (hb : b ∈ (TSh.putM (Sl.box 0 t :: sr) k z n).refs) : k + 1 ≤ b ∧ b < k + 1 + (t.wid + sr.wid) := by
  simp only [TSh.putM, Tr.wid] at hb
  cases hlt : Nat.blt n (k + (t.wid + 1)) with
  | true =>
    rw [hlt] at hb
    simp only [cond_true, Tr.mem, beq_ne (show n ≠ k by omega), cond_false] at hb
    have := t.mem_refs (k + 1) z.1 n b hb; omega
  | false =>
    rw [hlt] at hb
    have := TSh.putM_refs sr (k + (t.wid + 1)) z.2 n b hb; omega
theorem putT_refs1 {k : Nat} {t : Tr} {sr : TSh} {z : TSh.den (Sl.box 0 t :: sr)} {i b : Nat} (hb : b ∈ (TSh.putT (Sl.box 0 t :: sr) k z (i + 1)).refs) : k + 1 ≤ b ∧ b < k + 1 + (t.wid + sr.wid) := by
  simp only [TSh.putT] at hb
  rw [setT_ne _ _ (by omega)] at hb
  have := TSh.putT_refs sr _ z.2 (i + 1) b hb
  simp only [Tr.wid] at this; omega
section
variable {P : Program}
theorem specP_ok {R : Type} {f : FuncId} {t : Tr} {sa : Sig} {sr : TSh} {F : t.den → sa.den → Option (t.den × sr.den)} (hfn : FnP P f t sa sr F)
    (hcount : ∀ fn, P.funcs[f]? = some fn → fn.results.size = sr.length) :
    ∀ args M id (c : Eff → Option R) r, specP t sa sr F args M id c = some r → ∃ eff, CallOK P f args M eff ∧ c eff = some r := by
  intro args M id c r hs
  unfold specP at hs
  cases args with
  | nil => cases hs
  | cons p args =>
  simp only at hs
  split at hs
  · rename_i b i j g
    split at hs
    · rename_i cells hb
      cases hq : Nat.beq i 0 && Nat.beq j 0 && Nat.beq g 0 with
      | false => rw [hq] at hs; cases hs
      | true =>
        rw [hq] at hs
        simp only [Bool.and_eq_true] at hq
        obtain ⟨⟨q1, q2⟩, q3⟩ := hq
        have q1 := Nat.eq_of_beq_eq_true q1
        have q2 := Nat.eq_of_beq_eq_true q2
        have q3 := Nat.eq_of_beq_eq_true q3
        subst q1 q2 q3
        simp only [cond_true] at hs
        cases hgr : t.grab M cells with
        | none => rw [hgr] at hs; cases hs
        | some pr =>
          obtain ⟨x, q, obs⟩ := pr
          rw [hgr] at hs
          cases q with
          | cons _ _ => cases hs
          | nil =>
            simp only at hs
            cases hnd : nodupO (some b :: obs) with
            | false => rw [hnd] at hs; cases hs
            | true =>
              rw [hnd] at hs
              simp only [cond_true] at hs
              cases ha : argsG M sa args with
              | none => rw [ha] at hs; cases hs
              | some pa =>
                obtain ⟨y, fps⟩ := pa
                rw [ha] at hs
                cases fps with
                | cons _ _ => cases hs
                | nil =>
                  simp only at hs
                  cases hF : F x y with
                  | none => rw [hF] at hs; cases hs
                  | some z =>
                    rw [hF] at hs
                    simp only [forceN_eq, forceNs_eq] at hs
                    generalize (id + 1) * 100000 = k at hs
                    generalize hidsE : ((List.range (t.wid + sr.wid)).map fun j => k + 1 + j) = ids at hs
                    generalize hold : b :: somesN obs = old at hs
                    cases hi : ids.all (fun n => (M n).isNone) && old.all (fun n => Nat.blt n k) && Nat.beq cells.length (t.cells (k + 1) z.1).length with
                    | false => rw [hi] at hs; cases hs
                    | true =>
                      rw [hi] at hs
                      simp only [cond_true] at hs
                      simp only [Bool.and_eq_true] at hi
                      obtain ⟨⟨hi1, hi2⟩, hi3⟩ := hi
                      have hlen := Nat.eq_of_beq_eq_true hi3
                      have hids : ∀ n, n ∈ ids ↔ k + 1 ≤ n ∧ n < k + 1 + (t.wid + sr.wid) := fun n => by
                        rw [← hidsE]
                        simp only [List.mem_map, List.mem_range]
                        constructor
                        · rintro ⟨j, hj, rfl⟩; omega
                        · rintro ⟨h1, h2⟩; exact ⟨n - (k + 1), by omega, by omega⟩
                      have holdlt : ∀ n ∈ old, n < k := fun n hn => blt_iff.1 (List.all_eq_true.1 hi2 n hn)
                      have hbold : b ∈ old := by rw [← hold]; simp
                      have hblt := holdlt b hbold
                      have hobs : ∀ n, n ∈ old ↔ n = b ∨ some n ∈ obs := fun n => by rw [← hold, List.mem_cons, somesN_mem]
                      obtain ⟨hcallable, hcalls⟩ := hfn x y z hF
                      refine ⟨_, ⟨fun n hn => ?_, hcallable, fun M2 hM β Z w cargs hmem hargs => ?_⟩, hs⟩
                      · simpa using hn
                      · simp only [List.mem_append] at hM
                        obtain ⟨v, cargs', rfl, hv, hra⟩ := hargs.cons_inv
                        have hb2 : M2 b = .box cells := by rw [hM b (.inl hbold)]; exact hb
                        have hgr2 : t.grab M2 cells = some (x, [], obs) := t.grab_congr hgr fun n hn => hM n (.inl ((hobs n).2 (.inr hn)))
                        -- the callee's view
                        have hrel : Rel β M2 Z 1 (paramsE [.ptr b 0 0 0] 0) { tmps := #[v], defers := [] } w := by
                          have := Rel.begin (n := 1) hmem (args := [.ptr b 0 0 0]) (vs := #[v]) (RL.cons hv RL.nil) (by simp)
                          simpa using this
                        have h0 : TSh.grab0 (paramsE [.ptr b 0 0 0] 0) M2 [Sl.box 0 t] = some ((x, ()), some b :: obs ++ []) := by
                          simp only [TSh.grab0, Sl.cells, cond_false, paramsE, setT_same, Tr.grab, hb2, hgr2, beq_self, Bool.and_self, cond_true]
                        obtain ⟨β1, hr1, hl1, hlie1⟩ := TSh.okB hrel h0 (by rw [List.append_nil]; exact hnd) 0
                        have hβ1 : β1 0 = β b := by
                          have := hl1 0 (by simp)
                          simpa [locOf] using this
                        have hv1 : RV β1 (TSh.putM [Sl.box 0 t] 0 (x, ())) Z w.heap (.ptr 0 0 0 0) v := by
                          have := hr1.tmps 0
                          simpa [TSh.putT, setT_same, mkv, Tr.cells] using this
                        have hO : ∀ cb, owned β1 (TSh.putM [Sl.box 0 t] 0 (x, ())) cb → owned β (M2.only old) cb := fun cb ho => by
                          obtain ⟨n, _, g2⟩ := ho
                          obtain ⟨j, b', _, _, p1, p2, p3⟩ := hlie1 n cb g2
                          have hin : b' ∈ old := by
                            have := List.mem_of_getElem? p1
                            rw [List.append_nil] at this
                            rw [hobs]
                            rcases List.mem_cons.1 this with h | h
                            · exact .inl (by cases h; rfl)
                            · exact .inr h
                          exact ⟨b', by rw [only_in hin]; exact p2, by unfold lies; rw [only_in hin]; exact p3⟩
                        have hO2 : ∀ cb, owned β (M2.only old) cb → owned β M2 cb := fun cb ho => by
                          obtain ⟨n, _, g1, g2⟩ := only_owned ho
                          exact ⟨n, g1, g2⟩
                        have ha2 : argsG M2 sa args = some (y, []) := argsG_congr ha fun n hn => by cases hn
                        have hra1 := argsG_ok hmem (Z1 := Z) (fun cb hz => hz) β1 (TSh.putM [Sl.box 0 t] 0 (x, ())) ha2 hra fun n hn => by cases hn
                        refine (hcalls k β1 Z w v cargs' hr1.mem hv1 hra1).mono fun e w' ⟨us, β', Z', h1, ⟨fn, h2, h3⟩, h4, h5, h6, h7⟩ => ?_
                        obtain ⟨s1, s2, s3, s4, s5, s6⟩ := h7
                        rw [hβ1] at h6
                        -- the caller's blocks behind the call
                        have hnob : ∀ n ∈ old, n ≠ b → backM b k t sr z n = .dead := fun n hn hne => backM_old hne (holdlt n hn)
                        have hnew : ∀ n ∈ ids, backM b k t sr z n = TSh.putM (Sl.box 0 t :: sr) k z n := fun n hn => backM_new hblt (by have := (hids n).1 hn; omega)
                        let Mc : Mem := fun n => bif hasN n (old ++ ids) then backM b k t sr z n else .none
                        have hMc : ∀ n ∈ old ++ ids, Mc n = backM b k t sr z n := fun n hn => by simp only [Mc]; rw [hasN_iff.2 hn]; rfl
                        have hMo : ∀ n, n ∉ old ++ ids → Mc n = .none := fun n hn => by simp only [Mc]; rw [hasN_not.2 hn]; rfl
                        have mo : ∀ {n}, n ∈ old → n ∈ old ++ ids := fun h => List.mem_append.2 (.inl h)
                        have mi : ∀ {n}, n ∈ ids → n ∈ old ++ ids := fun h => List.mem_append.2 (.inr h)
                        have hMcb : Mc b = .box (t.cells (k + 1) z.1) := by rw [hMc b (mo hbold), backM_b]
                        let βc : Nat → Option Loc := fun n => if n = b then β b else β' n
                        have hβb : βc b = β b := by simp [βc]
                        have hβn : ∀ n, n ≠ b → βc n = β' n := fun n hn => by simp [βc, hn]
                        have hnb : ∀ n ∈ ids, n ≠ b := fun n hn => by have := (hids n).1 hn; omega
                        -- what lies where
                        have hlies : ∀ n cb, lies βc Mc n cb → (n = b ∧ lies β' (TSh.putM (Sl.box 0 t :: sr) k z) k cb) ∨ (n ∈ ids ∧ lies β' (TSh.putM (Sl.box 0 t :: sr) k z) n cb) := fun n cb hl => by
                          by_cases hin : n ∈ old ++ ids
                          · rcases List.mem_append.1 hin with ho | hi
                            · by_cases hne : n = b
                              · subst hne
                                refine .inl ⟨rfl, ?_⟩
                                unfold lies at hl ⊢
                                rw [hβb, ← h6] at hl
                                exact ⟨by rw [putM_at]; simp [Blk.gen], hl.2⟩
                              · exfalso
                                have := hl.1
                                rw [hMc n hin, hnob n ho hne] at this
                                exact this rfl
                            · refine .inr ⟨hi, ?_⟩
                              unfold lies at hl ⊢
                              rw [hMc n hin, hnew n hi, hβn n (hnb n hi)] at hl
                              exact hl
                          · exfalso
                            have := hl.1
                            rw [hMo n hin] at this
                            exact this rfl
                        have hown : ∀ n cb, (Mc n).own = true → lies βc Mc n cb → owned β' (TSh.putM (Sl.box 0 t :: sr) k z) cb := fun n cb ho hl => by
                          rcases hlies n cb hl with ⟨rfl, h⟩ | ⟨hi, h⟩
                          · exact ⟨k, by rw [putM_at]; rfl, h⟩
                          · exact ⟨n, by rw [hMc n (mi hi), hnew n hi] at ho; exact ho, h⟩
                        have hkeep : ∀ r, (k + 1 ≤ r ∧ r < k + 1 + (t.wid + sr.wid)) → Mc r = TSh.putM (Sl.box 0 t :: sr) k z r ∧ βc r = β' r := fun r hr => by
                          have hri := (hids r).2 hr
                          exact ⟨by rw [hMc r (mi hri), hnew r hri], hβn r (hnb r hri)⟩
                        have rmc : RMem βc Mc Z' w'.heap := by
                          refine ⟨fun n => ?_, fun n n' cb ho hl hl' => ?_, fun cb hz ⟨n, ho, hl⟩ => h5.zown cb hz (hown n cb ho hl), h5.zlt⟩
                          · by_cases hin : n ∈ old ++ ids
                            · rcases List.mem_append.1 hin with ho | hi
                              · by_cases hne : n = b
                                · subst hne
                                  have hk := h5.blk k
                                  unfold RB at hk ⊢
                                  rw [putM_at, h6] at hk
                                  rw [hMcb, hβb]
                                  simp only at hk ⊢
                                  obtain ⟨cb, Te, cc, a1, a2, a3, a4⟩ := hk
                                  refine ⟨cb, Te, cc, a1, a2, a3, fun i hi => (a4 i hi).keepRefs fun r hr => hkeep r ?_⟩
                                  have := t.cells_refs (k + 1) z.1 r (refsL_mem hi hr)
                                  omega
                                · unfold RB; rw [hMc n hin, hnob n ho hne]; trivial
                              · exact (h5.blk n).keepRefs (by rw [hMc n hin, hnew n hi]) (hβn n (hnb n hi)) fun r hr => hkeep r (putM_refs1 (by have := (hids n).1 hi; omega) hr)
                            · unfold RB; rw [hMo n hin]; trivial
                          · rcases hlies n cb hl with ⟨rfl, g1⟩ | ⟨i1, g1⟩ <;> rcases hlies n' cb hl' with ⟨rfl, g2⟩ | ⟨i2, g2⟩
                            · rfl
                            · have := h5.sep k n' cb (by rw [putM_at]; rfl) g1 g2
                              have := (hids n').1 i2; omega
                            · have := h5.sep n k cb (by rw [hMc n (mi i1), hnew n i1] at ho; exact ho) g1 g2
                              have := (hids n).1 i1; omega
                            · exact h5.sep n n' cb (by rw [hMc n (mi i1), hnew n i1] at ho; exact ho) g1 g2
                        have evc : Ev β (M2.only old) Z w.heap βc Mc Z' w'.heap := by
                          refine { zkeep := fun cb hz => ?_, zmono := s1, nn := fun n hn => ?_, gone := fun n hn hg => ?_, gens := fun n g hg g' hg' => ?_, size := s3, frame := fun cb hlt ho => s4 cb hlt fun hh => ho (hO cb hh), own := fun cb ho => ?_, znew := fun cb hz => ?_ }
                          · exact s4 cb (hmem.zlt.lt cb hz) fun hh => hmem.zown cb hz (hO2 cb (hO cb hh))
                          · have hin : n ∈ old := Decidable.byContradiction fun h => hn (only_out h)
                            by_cases hne : n = b
                            · subst hne; rw [hMcb]; simp
                            · rw [hMc n (mo hin), hnob n hin hne]; simp
                          · have hin : n ∈ old := Decidable.byContradiction fun h => hn (only_out h)
                            by_cases hne : n = b
                            · subst hne; rw [only_in hin, hb2] at hg; cases hg
                            · rw [hMc n (mo hin), hnob n hin hne]; rfl
                          · have hin : n ∈ old := Decidable.byContradiction fun h => by rw [only_out h] at hg; cases hg
                            by_cases hne : n = b
                            · subst hne
                              rw [only_in hin, hb2] at hg ⊢
                              rw [hMcb] at hg' ⊢
                              cases hg; cases hg'
                              exact ⟨Nat.le_refl _, fun _ => ⟨hβb, hlen.symm, rfl, rfl⟩⟩
                            · rw [hMc n (mo hin), hnob n hin hne] at hg'; cases hg'
                          · obtain ⟨n, ho, hl⟩ := ho
                            rcases s5 cb (hown n cb ho hl) with h | h
                            · exact .inl h
                            · exact .inr (hO cb h)
                          · rcases s2 cb hz with h | h | h
                            · exact .inl h
                            · exact .inr (.inl h)
                            · exact .inr (.inr (hO cb h))
                        have hcl : ∀ n ∈ old ++ ids, ∀ r ∈ (Mc n).refs, r ∈ old ++ ids := fun n hn r hr => by
                          rcases List.mem_append.1 hn with ho | hi
                          · by_cases hne : n = b
                            · subst hne
                              rw [hMcb] at hr
                              have := t.cells_refs (k + 1) z.1 r hr
                              exact mi ((hids r).2 (by omega))
                            · rw [hMc n hn, hnob n ho hne] at hr; cases hr
                          · rw [hMc n hn, hnew n hi] at hr
                            exact mi ((hids r).2 (putM_refs1 (by have := (hids n).1 hi; omega) hr))
                        obtain ⟨l1, l2, l3⟩ := leave hmem rmc evc (ids := old ++ ids) hcl (fun n hn => mo hn) (fun n hn => by
                          rcases List.mem_append.1 hn with h | h
                          · exact .inl h
                          · right
                            rw [hM n (.inr h)]
                            exact isNone_iff (List.all_eq_true.1 hi1 n h))
                        have hup : M2.upds ((old ++ ids).map fun n => (n, backM b k t sr z n)) = M2.join Mc (old ++ ids) := by
                          rw [← upds_join]
                          congr 1
                          exact List.map_congr_left fun n hn => by rw [hMc n hn]
                        refine ⟨_, joinB β βc (old ++ ids), Z', h1, ?_, ?_, ?_⟩ <;> rw [hup]
                        · have hrl : RL (joinB β βc (old ++ ids)) (M2.join Mc (old ++ ids)) Z' w'.heap (resP t sr k z sr.length) us := by
                            refine ⟨by rw [h3, hcount fn h2]; simp [resP], fun i u u' hu hu' => ?_⟩
                            have e : u = TSh.putT (Sl.box 0 t :: sr) k z (i + 1) := by
                              unfold resP at hu
                              rw [List.getElem?_map] at hu
                              cases hr : (List.range sr.length)[i]? with
                              | none => rw [hr] at hu; cases hu
                              | some q =>
                                rw [hr] at hu
                                have hq : q = i := by
                                  have := (List.getElem?_eq_some_iff.1 hr).2
                                  simp at this; exact this.symm
                                subst hq
                                simp at hu; exact hu.symm
                            subst e
                            have := h4 (i + 1)
                            have hg : (v :: us).getD (i + 1) undef = u' := by simp [hu']
                            rw [hg] at this
                            have h8 : RV βc Mc Z' w'.heap (TSh.putT (Sl.box 0 t :: sr) k z (i + 1)) u' := this.keepRefs fun r hr => hkeep r (putT_refs1 hr)
                            exact l3 _ _ h8 fun r hr => mi ((hids r).2 (putT_refs1 hr))
                          exact retV_ok hrl
                        · exact l1
                        · exact ⟨l2, s6⟩
    · cases hs
  · cases hs
end
end Go.Pv
/-! ### Functions that own their arguments' rows and maps: by themselves, and what a caller is told of them. -/
namespace Go.Pv
@[reducible] def Sl.mp (t : Nat) (k : IntKind) (τ : Ty) : Sl := ⟨t, false, false, .mp k τ⟩
theorem SinceO.loose (w0 : World) (Z0 O : Nat → Prop) : Say.Loose (SinceO w0 Z0 O) := ⟨fun h ev => h.kept ev, fun h ho => h.sub ho⟩
def argsT (sa : TSh) (x : sa.den) : List V := (List.range sa.length).map (TSh.putT sa 0 x)
noncomputable section
/-- a function by itself, whose arguments are its own -/
def evalO (P : Program) (T : TypeId → TT) (callE : (R : Type) → CallE R) (lts : List LoopT) (sps : List Split) (f : FuncId) (sa sr : TSh) (x : sa.den) : Option sr.den :=
  match P.funcs[f]? with
  | none => none
  | some fn => match fn.body with
    | none => none
    | some code => bif Nat.ble (argsT sa x).length fn.ntmps then
        codeE T (callE _) fn.ntmps (hookT T callE 100000 lts sps fn.ntmps 5 _) 100000 code (paramsE (argsT sa x) 0) (TSh.putM sa 0 x) sa.wid fun ex ρ M _ => match ex with
          | .exit _ => none
          | _ => match resE T ρ M fn.results.toList with
            | none => none
            | some vs => TSh.grab (paramsE vs 0) M sr
      else none
end
def FnO (P : Program) (f : FuncId) (sa sr : TSh) (F : sa.den → Option sr.den) : Prop :=
  ∀ x y, F x = some y → Callable P f ∧ ∀ (k : Nat) (β : Nat → Option Loc) (Z : Nat → Prop) (w : World) (cargs : List Value),
    RMem β (TSh.putM sa 0 x) Z w.heap → RL β (TSh.putM sa 0 x) Z w.heap (argsT sa x) cargs →
    Calls P f cargs.toArray w fun e w' => ∃ us β' Z', e = .returned (retVal us) ∧ (∃ fn, P.funcs[f]? = some fn ∧ us.length = fn.results.size) ∧
      (∀ i, RV β' (TSh.putM sr k y) Z' w'.heap (TSh.putT sr k y i) (us.getD i undef)) ∧
      RMem β' (TSh.putM sr k y) Z' w'.heap ∧ SinceO w Z (owned β (TSh.putM sa 0 x)) β' (TSh.putM sr k y) Z' w'
section
variable {P : Program} {T : TypeId → TT}
theorem evalO_ok (hT : TOK P T) (hm : P.follows .mixedOrders = true) (hname : ∀ (f : FuncId) fn, P.funcs[f]? = some fn → (fn.name == "runtime.NumGoroutine") = false)
    {f : FuncId} {sa sr : TSh} {F : sa.den → Option sr.den}
    (hF : ∀ x y, F x = some y → ∃ (callE : (R : Type) → CallE R) (lts : List LoopT) (sps : List Split), (∀ R, CallsOK P (callE R)) ∧ evalO P T callE lts sps f sa sr x = some y) : FnO P f sa sr F := by
  intro x y h
  obtain ⟨callE, lts, sps, hcall, h⟩ := hF x y h
  unfold evalO at h
  cases hf : P.funcs[f]? with
  | none => rw [hf] at h; cases h
  | some fn =>
    rw [hf] at h
    simp only at h
    cases hb : fn.body with
    | none => rw [hb] at h; cases h
    | some code =>
      rw [hb] at h
      simp only at h
      cases hn : Nat.ble (argsT sa x).length fn.ntmps with
      | false => rw [hn] at h; cases h
      | true =>
        rw [hn] at h
        simp only [cond_true] at h
        have hn := Nat.le_of_ble_eq_true hn
        refine ⟨⟨fn, hf, by rw [hb]; rfl, hname f fn hf⟩, fun k β Z w cargs hmem hargs => ?_⟩
        obtain ⟨ex, ρ', M', nx', hk, hw⟩ := codeE_ok (𝒥 := Say.Loose) hT hm (hcall _) (fun J h => h.1) (hookT_ok (lts := lts) (sps := sps) hT hm hcall 5 _) 100000 code _ _ _ _ _ h
        have hex : ∀ id, ex ≠ .exit id := fun id e => by subst e; cases hk
        have hk' : (match resE T ρ' M' fn.results.toList with
            | none => none
            | some vs => TSh.grab (paramsE vs 0) M' sr) = some y := by
          cases ex with
          | normal => exact hk
          | exit id => exact absurd rfl (hex id)
          | ret => exact hk
        cases hres : resE T ρ' M' fn.results.toList with
        | none => rw [hres] at hk'; cases hk'
        | some vs =>
          rw [hres] at hk'
          simp only at hk'
          have hrel : Rel β (TSh.putM sa 0 x) Z fn.ntmps (paramsE (argsT sa x) 0) { tmps := cargs.toArray ++ Array.replicate (fn.ntmps - cargs.toArray.size) undef, defers := [] } w :=
            Rel.begin hmem (by simpa using hargs) hn
          have hs0 : SinceO w Z (owned β (TSh.putM sa 0 x)) β (TSh.putM sa 0 x) Z w := ⟨fun _ h => h, fun _ h => .inl h, Nat.le_refl _, fun _ _ _ => rfl, fun cb ho => .inr ho, Wd.refl _⟩
          refine calls_of_wp hf hb (hw (SinceO w Z (owned β (TSh.putM sa 0 x))) (SinceO.loose w Z _) β Z _ w _ hrel hs0 fun β' Z' a' w' hr' hj' hd => ?_)
          obtain ⟨us, hus, hrl⟩ := resE_ok hT _ _ hres hr'
          have hrun : (results fn a'.tmps).run P w' = .ok (retVal us) w' := by
            rw [results_eq, Sem.run_bind, Array.mapM_eq_mapM_toList, Sem.run_map, hus]
            rfl
          have hrel2 : Rel β' M' Z' us.length (paramsE vs 0) { tmps := us.toArray, defers := [] } w' := by
            have := Rel.begin (n := us.length) hr'.mem (vs := us.toArray) (by simpa using hrl) (by rw [hrl.1]; exact Nat.le_refl _)
            simpa using this
          obtain ⟨β2, Z2, M2, he, g1, g2⟩ := TSh.ok hrel2 hk' k
          have hlen : us.length = fn.results.size := by rw [← hrl.1, resE_length hres]; simp
          have hpost : a'.defers = [] ∧ ∃ v, (results fn a'.tmps).run P w' = .ok v w' ∧ ∃ us β' Z', (Ending.returned v) = .returned (retVal us) ∧ (∃ fn', some fn = some fn' ∧ us.length = fn'.results.size) ∧
              (∀ i, RV β' (TSh.putM sr k y) Z' w'.heap (TSh.putT sr k y i) (us.getD i undef)) ∧
              RMem β' (TSh.putM sr k y) Z' w'.heap ∧ SinceO w Z (owned β (TSh.putM sa 0 x)) β' (TSh.putM sr k y) Z' w' := by
            refine ⟨hd, _, hrun, us, β2, Z2, rfl, ⟨fn, rfl, hlen⟩, fun i => ?_, g1.mem, (hj'.kept he).sub g2⟩
            have := g1.tmps i
            simpa using this
          cases ex with
          | normal => exact hpost
          | exit id => exact absurd rfl (hex id)
          | ret => exact hpost
end
/-- the caller's blocks behind the call -/
def backO (k : Nat) (sr : TSh) (y : sr.den) : Mem := fun n => bif Nat.blt n k then .dead else TSh.putM sr k y n
def specO {R : Type} (sa sr : TSh) (F : sa.den → Option sr.den) : List V → Mem → Nat → (Eff → Option R) → Option R := fun args M id c =>
  bif Nat.beq args.length sa.length then (match TSh.grab0 (paramsE args 0) M sa with
    | none => none
    | some (x, obs) => bif nodupO obs then (match F x with
      | none => none
      | some y => forceN ((id + 1) * 100000) fun k => forceNs (somesN obs) fun old => forceNs ((List.range sr.wid).map fun j => k + j) fun ids =>
        bif ids.all (fun n => (M n).isNone) && old.all (fun n => Nat.blt n k) then
          c { val := retV (resT sr k y sr.length), upd := (old ++ ids).map fun n => (n, backO k sr y n), fp := old ++ ids } else none) else none) else none
theorem TSh.grab0_congr {ρ : Nat → V} {M M' : Mem} : ∀ (sh : TSh) {x : sh.den} {obs : List (Option Nat)}, TSh.grab0 ρ M sh = some (x, obs) → (∀ b, some b ∈ obs → M' b = M b) → TSh.grab0 ρ M' sh = some (x, obs)
  | [], x, obs, hg, _ => hg
  | s :: r, x, obs, hg, hM => by
    simp only [TSh.grab0] at hg ⊢
    cases hc : s.cells ρ with
    | none => rw [hc] at hg; cases hg
    | some cs =>
      rw [hc] at hg
      simp only at hg ⊢
      cases h1 : s.tr.grab M cs with
      | none => rw [h1] at hg; cases hg
      | some p =>
        obtain ⟨y, q, o1⟩ := p
        rw [h1] at hg
        cases q with
        | cons _ _ => cases hg
        | nil =>
          simp only at hg
          cases h2 : TSh.grab0 ρ M r with
          | none => rw [h2] at hg; cases hg
          | some p2 =>
            obtain ⟨z, o2⟩ := p2
            rw [h2] at hg
            simp only [Option.some.injEq, Prod.mk.injEq] at hg
            rw [s.tr.grab_congr h1 fun b hb => hM b (by rw [← hg.2]; simp [hb])]
            simp only
            rw [TSh.grab0_congr r h2 fun b hb => hM b (by rw [← hg.2]; simp [hb])]
            simp only [Option.some.injEq, Prod.mk.injEq]
            exact hg
section
variable {P : Program}
theorem specO_ok {R : Type} {f : FuncId} {sa sr : TSh} {F : sa.den → Option sr.den} (hfn : FnO P f sa sr F) (hcount : ∀ fn, P.funcs[f]? = some fn → fn.results.size = sr.length) :
    ∀ args M id (c : Eff → Option R) r, specO sa sr F args M id c = some r → ∃ eff, CallOK P f args M eff ∧ c eff = some r := by
  intro args M id c r hs
  unfold specO at hs
  cases hal : Nat.beq args.length sa.length with
  | false => rw [hal] at hs; cases hs
  | true =>
  rw [hal] at hs
  have hal := Nat.eq_of_beq_eq_true hal
  simp only [cond_true] at hs
  cases hgr : TSh.grab0 (paramsE args 0) M sa with
  | none => rw [hgr] at hs; cases hs
  | some pr =>
    obtain ⟨x, obs⟩ := pr
    rw [hgr] at hs
    simp only at hs
    cases hnd : nodupO obs with
    | false => rw [hnd] at hs; cases hs
    | true =>
      rw [hnd] at hs
      simp only [cond_true] at hs
      cases hF : F x with
      | none => rw [hF] at hs; cases hs
      | some y =>
        rw [hF] at hs
        simp only [forceN_eq, forceNs_eq] at hs
        generalize (id + 1) * 100000 = k at hs
        generalize hidsE : ((List.range sr.wid).map fun j => k + j) = ids at hs
        generalize hold : somesN obs = old at hs
        cases hi : ids.all (fun n => (M n).isNone) && old.all (fun n => Nat.blt n k) with
        | false => rw [hi] at hs; cases hs
        | true =>
          rw [hi] at hs
          simp only [cond_true] at hs
          simp only [Bool.and_eq_true] at hi
          obtain ⟨hi1, hi2⟩ := hi
          have hids : ∀ n, n ∈ ids ↔ k ≤ n ∧ n < k + sr.wid := fun n => by
            rw [← hidsE]
            simp only [List.mem_map, List.mem_range]
            constructor
            · rintro ⟨j, hj, rfl⟩; omega
            · rintro ⟨h1, h2⟩; exact ⟨n - k, by omega, by omega⟩
          have holdlt : ∀ n ∈ old, n < k := fun n hn => blt_iff.1 (List.all_eq_true.1 hi2 n hn)
          have hobs : ∀ n, n ∈ old ↔ some n ∈ obs := fun n => by rw [← hold, somesN_mem]
          obtain ⟨hcallable, hcalls⟩ := hfn x y hF
          refine ⟨_, ⟨fun n hn => ?_, hcallable, fun M2 hM β Z w cargs hmem hargs => ?_⟩, hs⟩
          · simpa using hn
          · simp only [List.mem_append] at hM
            have hgr2 : TSh.grab0 (paramsE args 0) M2 sa = some (x, obs) := TSh.grab0_congr sa hgr fun n hn => hM n (.inl ((hobs n).2 hn))
            have hcl0 := hargs.1
            have hrel : Rel β M2 Z cargs.length (paramsE args 0) { tmps := cargs.toArray, defers := [] } w := by
              have := Rel.begin (n := cargs.length) hmem (args := args) (vs := cargs.toArray) (by simpa using hargs) (by rw [hcl0]; exact Nat.le_refl _)
              simpa using this
            obtain ⟨β1, hr1, hl1, hlie1⟩ := TSh.okB hrel hgr2 hnd 0
            have hra1 : RL β1 (TSh.putM sa 0 x) Z w.heap (argsT sa x) cargs := by
              refine ⟨by simp [argsT]; omega, fun i u u' hu hu' => ?_⟩
              unfold argsT at hu
              rw [List.getElem?_map] at hu
              cases hr : (List.range sa.length)[i]? with
              | none => rw [hr] at hu; cases hu
              | some q =>
                rw [hr] at hu
                have hq : q = i := by
                  have := (List.getElem?_eq_some_iff.1 hr).2
                  simp at this; exact this.symm
                subst hq
                simp at hu
                subst hu
                have := hr1.tmps q
                simpa [hu'] using this
            have hO : ∀ cb, owned β1 (TSh.putM sa 0 x) cb → owned β (M2.only old) cb := fun cb ho => by
              obtain ⟨n, _, g2⟩ := ho
              obtain ⟨j, b', _, _, p1, p2, p3⟩ := hlie1 n cb g2
              have hin : b' ∈ old := (hobs b').2 (List.mem_of_getElem? p1)
              exact ⟨b', by rw [only_in hin]; exact p2, by unfold lies; rw [only_in hin]; exact p3⟩
            have hO2 : ∀ cb, owned β (M2.only old) cb → owned β M2 cb := fun cb ho => by
              obtain ⟨n, _, g1, g2⟩ := only_owned ho
              exact ⟨n, g1, g2⟩
            refine (hcalls k β1 Z w cargs hr1.mem hra1).mono fun e w' ⟨us, β', Z', h1, ⟨fn, h2, h3⟩, h4, h5, h7⟩ => ?_
            obtain ⟨s1, s2, s3, s4, s5, s6⟩ := h7
            have hdead : ∀ n ∈ old, backO k sr y n = .dead := fun n hn => by simp [backO, blt_iff.2 (holdlt n hn)]
            have hnew : ∀ n ∈ ids, backO k sr y n = TSh.putM sr k y n := fun n hn => by simp [backO, blt_false ((hids n).1 hn).1]
            let Mc : Mem := fun n => bif hasN n (old ++ ids) then backO k sr y n else .none
            have hMc : ∀ n ∈ old ++ ids, Mc n = backO k sr y n := fun n hn => by simp only [Mc]; rw [hasN_iff.2 hn]; rfl
            have hMo : ∀ n, n ∉ old ++ ids → Mc n = .none := fun n hn => by simp only [Mc]; rw [hasN_not.2 hn]; rfl
            have mo : ∀ {n}, n ∈ old → n ∈ old ++ ids := fun h => List.mem_append.2 (.inl h)
            have mi : ∀ {n}, n ∈ ids → n ∈ old ++ ids := fun h => List.mem_append.2 (.inr h)
            have hlies : ∀ n cb, lies β' Mc n cb → n ∈ ids ∧ lies β' (TSh.putM sr k y) n cb := fun n cb hl => by
              by_cases hin : n ∈ old ++ ids
              · rcases List.mem_append.1 hin with ho | hi
                · exfalso
                  have := hl.1
                  rw [hMc n hin, hdead n ho] at this
                  exact this rfl
                · refine ⟨hi, ?_⟩
                  unfold lies at hl ⊢
                  rw [hMc n hin, hnew n hi] at hl
                  exact hl
              · exfalso
                have := hl.1
                rw [hMo n hin] at this
                exact this rfl
            have hown : ∀ n cb, (Mc n).own = true → lies β' Mc n cb → owned β' (TSh.putM sr k y) cb := fun n cb ho hl => by
              obtain ⟨hi, h⟩ := hlies n cb hl
              exact ⟨n, by rw [hMc n (mi hi), hnew n hi] at ho; exact ho, h⟩
            have hkeep : ∀ r, (k ≤ r ∧ r < k + sr.wid) → Mc r = TSh.putM sr k y r ∧ β' r = β' r := fun r hr => by
              have hri := (hids r).2 hr
              exact ⟨by rw [hMc r (mi hri), hnew r hri], rfl⟩
            have rmc : RMem β' Mc Z' w'.heap := by
              refine ⟨fun n => ?_, fun n n' cb ho hl hl' => ?_, fun cb hz ⟨n, ho, hl⟩ => h5.zown cb hz (hown n cb ho hl), h5.zlt⟩
              · by_cases hin : n ∈ old ++ ids
                · rcases List.mem_append.1 hin with ho | hi
                  · unfold RB; rw [hMc n hin, hdead n ho]; trivial
                  · exact (h5.blk n).keepRefs (by rw [hMc n hin, hnew n hi]) rfl fun r hr => hkeep r (TSh.putM_refs sr k y n r hr)
                · unfold RB; rw [hMo n hin]; trivial
              · obtain ⟨i1, g1⟩ := hlies n cb hl
                obtain ⟨i2, g2⟩ := hlies n' cb hl'
                exact h5.sep n n' cb (by rw [hMc n (mi i1), hnew n i1] at ho; exact ho) g1 g2
            have evc : Ev β (M2.only old) Z w.heap β' Mc Z' w'.heap := by
              refine { zkeep := fun cb hz => ?_, zmono := s1, nn := fun n hn => ?_, gone := fun n hn hg => ?_, gens := fun n g hg g' hg' => ?_, size := s3, frame := fun cb hlt ho => s4 cb hlt fun hh => ho (hO cb hh), own := fun cb ho => ?_, znew := fun cb hz => ?_ }
              · exact s4 cb (hmem.zlt.lt cb hz) fun hh => hmem.zown cb hz (hO2 cb (hO cb hh))
              · have hin : n ∈ old := Decidable.byContradiction fun h => hn (only_out h)
                rw [hMc n (mo hin), hdead n hin]; simp
              · have hin : n ∈ old := Decidable.byContradiction fun h => hn (only_out h)
                rw [hMc n (mo hin), hdead n hin]; rfl
              · have hin : n ∈ old := Decidable.byContradiction fun h => by rw [only_out h] at hg; cases hg
                rw [hMc n (mo hin), hdead n hin] at hg'; cases hg'
              · obtain ⟨n, ho, hl⟩ := ho
                rcases s5 cb (hown n cb ho hl) with h | h
                · exact .inl h
                · exact .inr (hO cb h)
              · rcases s2 cb hz with h | h | h
                · exact .inl h
                · exact .inr (.inl h)
                · exact .inr (.inr (hO cb h))
            have hcl : ∀ n ∈ old ++ ids, ∀ r ∈ (Mc n).refs, r ∈ old ++ ids := fun n hn r hr => by
              rcases List.mem_append.1 hn with ho | hi
              · rw [hMc n hn, hdead n ho] at hr; cases hr
              · rw [hMc n hn, hnew n hi] at hr
                exact mi ((hids r).2 (TSh.putM_refs sr k y n r hr))
            obtain ⟨l1, l2, l3⟩ := leave hmem rmc evc (ids := old ++ ids) hcl (fun n hn => mo hn) (fun n hn => by
              rcases List.mem_append.1 hn with h | h
              · exact .inl h
              · right
                rw [hM n (.inr h)]
                exact isNone_iff (List.all_eq_true.1 hi1 n h))
            have hup : M2.upds ((old ++ ids).map fun n => (n, backO k sr y n)) = M2.join Mc (old ++ ids) := by
              rw [← upds_join]
              congr 1
              exact List.map_congr_left fun n hn => by rw [hMc n hn]
            refine ⟨_, joinB β β' (old ++ ids), Z', h1, ?_, ?_, ?_⟩ <;> rw [hup]
            · have hrl : RL (joinB β β' (old ++ ids)) (M2.join Mc (old ++ ids)) Z' w'.heap (resT sr k y sr.length) us := by
                refine ⟨by rw [h3, hcount fn h2]; simp [resT], fun i u u' hu hu' => ?_⟩
                have e : u = TSh.putT sr k y i := by
                  unfold resT at hu
                  rw [List.getElem?_map] at hu
                  cases hr : (List.range sr.length)[i]? with
                  | none => rw [hr] at hu; cases hu
                  | some q =>
                    rw [hr] at hu
                    have hq : q = i := by
                      have := (List.getElem?_eq_some_iff.1 hr).2
                      simp at this; exact this.symm
                    subst hq
                    simp at hu; exact hu.symm
                subst e
                have := h4 i
                have hg : us.getD i undef = u' := by simp [hu']
                rw [hg] at this
                have h8 : RV β' Mc Z' w'.heap (TSh.putT sr k y i) u' := this.keepRefs fun r hr => hkeep r (TSh.putT_refs sr k y i r hr)
                exact l3 _ _ h8 fun r hr => mi ((hids r).2 (TSh.putT_refs sr k y i r hr))
              exact retV_ok hrl
            · exact l1
            · exact ⟨l2, s6⟩
end
end Go.Pv
/-! ### Natural numbers: the program's functions as the code says it. -/
namespace Go.Pv.Dn
open Go.Proofs Go.Pv.Nn Go.Nv
set_option maxRecDepth 1000000
@[reducible] def tU32 : Ty := .int .u32
@[reducible] def tU64 : Ty := .int .u64
@[reducible] def tN : Ty := .slice tU32
@[reducible] def sN : Sig := [.val tN]
@[reducible] def sNN : Sig := [.val tN, .val tN]
@[reducible] def sNI : Sig := [.val tN, .val tI]
@[reducible] def rN : TSh := [Sl.val 0 tN]
@[reducible] def rI1 : TSh := [Sl.val 0 tI]
@[reducible] def rNI : TSh := [Sl.val 0 tN, Sl.val 1 tI]
@[reducible] def fnL (t : Nat) : Sl := Sl.fn t 83 (.box (.dat tN))
structure GNt where
  trim : L → OL
  bits : L → OI
  limit : L → OLI
  cmp : L → L → OI
def specsNt (g : GNt) (R : Type) (fn : FuncId) : Option (List V → Mem → Nat → (Eff → Option R) → Option R) :=
  match fn with
  | 37 => some (specT sN rN fun x => g.trim x.1)
  | 38 => some (specT sN rI1 fun x => g.bits x.1)
  | 39 => some (specT sN rNI fun x => g.limit x.1)
  | 46 => some (specT sNN rI1 fun x => g.cmp x.1 x.2.1)
  | _ => none
noncomputable def callNt (g : GNt) (R : Type) : CallE R := callsE Tryz.prog tt (specsNt g R) 20
/-! ### trim, Bits, limit, Norm, Of -/
def tr0 : LoopT := ⟨0, [Sl.val 0 tN, Sl.val 3 tI], [Sl.val 0 tN, Sl.val 3 tI], []⟩
noncomputable def ST : XT → Option (XT ⊕ (XT ⊕ Unit)) := stepT tt call0 Tryz.f37.ntmps (hookT tt call0 100000 [tr0] [] Tryz.f37.ntmps 4) 100000 tr0 ((loopBody 0 ((Tryz.f37.body).getD .skip)).getD .skip)
theorem ST_eq (a : L) (n : Int) : ST (a, n, ()) = trimS a n := by kernel_rfl
theorem e37_eq (a : L) : evalT Tryz.prog tt call0 [tr0] [] 37 sN rN (a, ()) = trimF ST a := by kernel_rfl
def bt0 : LoopT := ⟨0, [Sl.val 3 tI, Sl.val 4 tU32], [Sl.val 3 tI], []⟩
noncomputable def SB (g : GNt) : XB → Option (XB ⊕ ((Int × Unit) ⊕ Unit)) := stepT tt (callNt g) Tryz.f38.ntmps (hookT tt (callNt g) 100000 [bt0] [] Tryz.f38.ntmps 4) 100000 bt0 ((loopBody 0 ((Tryz.f38.body).getD .skip)).getD .skip)
theorem SB_eq (g : GNt) (n t : Int) : SB g (n, t, ()) = bitsS n t := by kernel_rfl
theorem e38_eq (g : GNt) (a : L) : evalT Tryz.prog tt (callNt g) [bt0] [] 38 sN rI1 (a, ()) = bitsF g.trim (SB g) a := by kernel_rfl
theorem e39_eq (g : GNt) (a : L) : evalT Tryz.prog tt (callNt g) [] [] 39 sN rNI (a, ()) = limitF g.trim g.bits a := by kernel_rfl
theorem e40_eq (g : GNt) (a : L) : evalT Tryz.prog tt (callNt g) [] [] 40 sN [Sl.row 0 tU32] (a, ()) = normF g.trim a := by kernel_rfl
theorem e27_eq (g : GNt) (n : Int) : evalT Tryz.prog tt (callNt g) [] [] 27 [.val tU64] rN (n, ()) = ofF g.trim n := by kernel_rfl
/-! ### Add -/
def ad0 : LoopT := ⟨0, [fnL 6, fnL 7, Sl.val 8 tI, Sl.row 9 tU32, Sl.val 10 tU64, Sl.val 11 tI], [Sl.row 9 tU32, Sl.val 10 tU64], []⟩
noncomputable def SA (g : GNt) : XA → Option (XA ⊕ (YA ⊕ Unit)) := stepT tt (callNt g) Tryz.f45.ntmps (hookT tt (callNt g) 100000 [ad0] [] Tryz.f45.ntmps 4) 100000 ad0 ((loopBody 0 ((Tryz.f45.body).getD .skip)).getD .skip)
theorem SA_eq (g : GNt) (a b : L) (n : Int) (o : L) (c i : Int) : SA g (a, b, n, o, c, i, ()) = addS a b n o c i := by kernel_rfl
theorem e45_eq (g : GNt) (a b : L) : evalT Tryz.prog tt (callNt g) [ad0] [] 45 sNN rNI (a, b, ()) = addF g.limit (SA g) a b := by kernel_rfl
/-! ### Sub -/
def sb0 : LoopT := ⟨0, [Sl.val 0 tN, fnL 6, fnL 7, Sl.row 8 tU32, Sl.val 9 tU64, Sl.val 10 tI], [Sl.row 8 tU32], []⟩
noncomputable def SSb (g : GNt) : XS → Option (XS ⊕ (YS ⊕ Unit)) := stepT tt (callNt g) Tryz.f47.ntmps (hookT tt (callNt g) 100000 [sb0] [] Tryz.f47.ntmps 4) 100000 sb0 ((loopBody 0 ((Tryz.f47.body).getD .skip)).getD .skip)
theorem SSb_eq (g : GNt) (a x b o : L) (c i : Int) : SSb g (a, x, b, o, c, i, ()) = subS a x b o c i := by kernel_rfl
theorem e47_eq (g : GNt) (a b : L) : evalT Tryz.prog tt (callNt g) [sb0] [] 47 sNN rNI (a, b, ()) = subF g.cmp g.limit (SSb g) a b := by kernel_rfl
/-! ### Cmp -/
def cm0 : LoopT := ⟨0, [fnL 5, fnL 6, Sl.val 7 tI], [], [Sl.val 4 tI]⟩
noncomputable def SC : XC → Option (XC ⊕ (Unit ⊕ (Int × Unit))) := stepT tt call0 Tryz.f46.ntmps (hookT tt call0 100000 [cm0] [] Tryz.f46.ntmps 4) 100000 cm0 ((loopBody 0 ((Tryz.f46.body).getD .skip)).getD .skip)
theorem SC_eq (a b : L) (i : Int) : SC (a, b, i, ()) = cmpS a b i := by kernel_rfl
theorem e46_eq (a b : L) : evalT Tryz.prog tt call0 [cm0] [] 46 sNN rI1 (a, b, ()) = cmpF SC a b := by kernel_rfl
/-! ### Shr, Shl -/
def sr0 : LoopT := ⟨0, [Sl.val 0 tN, Sl.val 1 tI, fnL 6, Sl.row 7 tU32, Sl.val 8 tI], [Sl.row 7 tU32], []⟩
noncomputable def SRr (g : GNt) : XR → Option (XR ⊕ (YR ⊕ Unit)) := stepT tt (callNt g) Tryz.f41.ntmps (hookT tt (callNt g) 100000 [sr0] [] Tryz.f41.ntmps 4) 100000 sr0 ((loopBody 0 ((Tryz.f41.body).getD .skip)).getD .skip)
theorem SRr_eq (g : GNt) (a : L) (n : Int) (x o : L) (i : Int) : SRr g (a, n, x, o, i, ()) = shrS a n x o i := by kernel_rfl
theorem e41_eq (g : GNt) (a : L) (n : Int) : evalT Tryz.prog tt (callNt g) [sr0] [] 41 sNI rNI (a, n, ()) = shrF g.limit (SRr g) a n := by kernel_rfl
def sl0 : LoopT := ⟨0, [Sl.val 1 tI, Sl.val 35 tN, Sl.val 36 tI, Sl.val 7 tU64, Sl.row 6 tU32, Sl.val 37 tI], [Sl.val 7 tU64, Sl.row 6 tU32], []⟩
noncomputable def SLl (g : GNt) : XL → Option (XL ⊕ (YL ⊕ Unit)) := stepT tt (callNt g) Tryz.f58.ntmps (hookT tt (callNt g) 100000 [sl0] [] Tryz.f58.ntmps 4) 100000 sl0 ((loopBody 0 ((Tryz.f58.body).getD .skip)).getD .skip)
theorem SLl_eq (g : GNt) (n : Int) (l : L) (m c : Int) (o : L) (i : Int) : SLl g (n, l, m, c, o, i, ()) = shlS n l m c o i := by kernel_rfl
theorem e58_eq (g : GNt) (a : L) (n : Int) : evalT Tryz.prog tt (callNt g) [sl0] [] 58 sNI rNI (a, n, ()) = shlF g.trim g.bits g.limit (SLl g) a n := by kernel_rfl
/-! ### Mul -/
def mu0 : LoopT := ⟨0, [Sl.val 0 tN, Sl.val 1 tN, Sl.row 6 tU32, Sl.val 36 tI, Sl.val 37 tI], [Sl.row 6 tU32], []⟩
def mu2 : LoopT := ⟨2, [Sl.val 0 tN, Sl.val 1 tN, Sl.row 6 tU32, Sl.val 7 tI, Sl.val 8 tU64, Sl.val 36 tI, Sl.val 37 tI, Sl.val 41 tI, Sl.val 42 tI], [Sl.val 0 tN, Sl.val 1 tN, Sl.row 6 tU32, Sl.val 7 tI, Sl.val 8 tU64, Sl.val 36 tI, Sl.val 37 tI], []⟩
noncomputable def stM (g : GNt) (d : Nat) (lp : LoopT) (id : Nat) := stepT tt (callNt g) Tryz.f20.ntmps (hookT tt (callNt g) 100000 [mu0, mu2] [] Tryz.f20.ntmps d) 100000 lp ((loopBody id ((Tryz.f20.body).getD .skip)).getD .skip)
noncomputable def SM0 (g : GNt) : XM → Option (XM ⊕ ((L × Unit) ⊕ Unit)) := stM g 4 mu0 0
noncomputable def SM2 (g : GNt) : XM2 → Option (XM2 ⊕ (YM2 ⊕ Unit)) := stM g 3 mu2 2
theorem SM2_eq (g : GNt) (a b o : L) (p c n i m k : Int) : SM2 g (a, b, o, p, c, n, i, m, k, ()) = mulS2 a b o p c n i m k := by kernel_rfl
theorem SM0_eq (g : GNt) (a b o : L) (n i : Int) : SM0 g (a, b, o, n, i, ()) = mulS (SM2 g) a b o n i := by kernel_rfl
theorem e20_eq (g : GNt) (a b : L) : evalT Tryz.prog tt (callNt g) [mu0, mu2] [] 20 sNN rNI (a, b, ()) = mulF g.trim g.bits g.limit (SM0 g) a b := by kernel_rfl
end Go.Pv.Dn
/-! ### Natural numbers: what the program's functions compute. -/
namespace Go.Pv.Dn
open Go.Proofs Go.Pv.Nn Go.Nv
set_option maxRecDepth 1000000
theorem mkT {f : FuncId} {sa : Sig} {sr : TSh} {F : sa.den → Option sr.den}
    (h : ∀ x y, F x = some y → ∃ callE : (R : Type) → CallE R, (∀ R, CallsOK Tryz.prog (callE R)) ∧ ∃ lts sps, evalT Tryz.prog tt callE lts sps f sa sr x = some y) : FnT Tryz.prog f sa sr F := fun x y hF => by
  obtain ⟨callE, h1, lts, sps, h2⟩ := h x y hF
  exact evalT_ok tt_ok mixed names h1 h2
theorem cntN (f : FuncId) {n : Nat} (h : (Tryz.prog.funcs[f]?).map (fun fn => fn.results.size) = some n) (fn : Func) (hf : Tryz.prog.funcs[f]? = some fn) : fn.results.size = n := by
  rw [hf] at h; simpa using h
theorem fnNone {f : FuncId} {sa : Sig} {sr : TSh} : FnT Tryz.prog f sa sr fun _ => none := fun _ _ h => by cases h
noncomputable def trimD (a : L) : OL := trimF ST a
theorem fnTrim : FnT Tryz.prog 37 sN rN fun x => trimD x.1 := mkT fun x y h => by
  obtain ⟨a, ⟨⟩⟩ := x
  exact ⟨_, call0_ok, _, _, (e37_eq a).trans h⟩
noncomputable def cmpDn (a b : L) : OI := cmpF SC a b
theorem fnCmp : FnT Tryz.prog 46 sNN rI1 fun x => cmpDn x.1 x.2.1 := mkT fun x y h => by
  obtain ⟨a, b, ⟨⟩⟩ := x
  exact ⟨_, call0_ok, _, _, (e46_eq a b).trans h⟩
theorem okNt {g : GNt} (h1 : FnT Tryz.prog 37 sN rN fun x => g.trim x.1) (h2 : FnT Tryz.prog 38 sN rI1 fun x => g.bits x.1) (h3 : FnT Tryz.prog 39 sN rNI fun x => g.limit x.1) (h4 : FnT Tryz.prog 46 sNN rI1 fun x => g.cmp x.1 x.2.1) (R : Type) : CallsOK Tryz.prog (callNt g R) :=
  callsE_ok tt_ok mixed names (fun fn s hs => by
    unfold specsNt at hs
    split at hs
    · cases hs; exact specT_ok h1 (cntN 37 (by kernel_rfl))
    · cases hs; exact specT_ok h2 (cntN 38 (by kernel_rfl))
    · cases hs; exact specT_ok h3 (cntN 39 (by kernel_rfl))
    · cases hs; exact specT_ok h4 (cntN 46 (by kernel_rfl))
    · cases hs) 20
noncomputable def gA : GNt := ⟨trimD, fun _ => none, fun _ => none, fun _ _ => none⟩
theorem okA (R : Type) : CallsOK Tryz.prog (callNt gA R) := okNt fnTrim fnNone fnNone fnNone R
noncomputable def bitsD (a : L) : OI := bitsF trimD (SB gA) a
theorem fnBits : FnT Tryz.prog 38 sN rI1 fun x => bitsD x.1 := mkT fun x y h => by
  obtain ⟨a, ⟨⟩⟩ := x
  exact ⟨_, okA, _, _, (e38_eq gA a).trans h⟩
noncomputable def gB : GNt := ⟨trimD, bitsD, fun _ => none, fun _ _ => none⟩
theorem okB (R : Type) : CallsOK Tryz.prog (callNt gB R) := okNt fnTrim fnBits fnNone fnNone R
noncomputable def limitD (a : L) : OLI := limitF trimD bitsD a
theorem fnLimit : FnT Tryz.prog 39 sN rNI fun x => limitD x.1 := mkT fun x y h => by
  obtain ⟨a, ⟨⟩⟩ := x
  exact ⟨_, okB, _, _, (e39_eq gB a).trans h⟩
noncomputable def gC : GNt := ⟨trimD, bitsD, limitD, cmpDn⟩
theorem okC (R : Type) : CallsOK Tryz.prog (callNt gC R) := okNt fnTrim fnBits fnLimit fnCmp R
theorem trimD_ok {a : L} (h : a.length ≤ 1010) : trimD a = some (ltrim a, ()) := trimF_ok ST_eq (by omega)
theorem bitsD_ok {a : L} (ha : Limb a) (h : a.length ≤ 1010) : bitsD a = some ((bitsV a : Int), ()) := bitsF_ok (SB_eq gA) ha (by omega) (trimD_ok h)
theorem limitD_ok {a : L} (ha : Limb a) (h : a.length ≤ 1010) : limitD a = some (ltrim a, 0, ()) := by
  have h1 := ltrim_le a
  exact limitF_ok ha (by omega) (trimD_ok h) (bitsD_ok (limb_ltrim ha) (by omega))
theorem cmpDn_ok {a b : L} (ha : Limb a) (hb : Limb b) (h1 : a.length ≤ 1000) (h2 : b.length ≤ 1000) : cmpDn a b = some (cmpN (lval a) (lval b), ()) := cmpF_ok SC_eq ha hb h1 h2
noncomputable def normD (a : L) : OL := normF trimD a
theorem fnNorm : FnT Tryz.prog 40 sN [Sl.row 0 tU32] fun x => normD x.1 := mkT fun x y h => by
  obtain ⟨a, ⟨⟩⟩ := x
  exact ⟨_, okA, _, _, (e40_eq gA a).trans h⟩
theorem normD_ok {a : L} (h : a.length ≤ 1010) : normD a = some (ltrim a, ()) := by
  unfold normD normF
  rw [trimD_ok h]
  simp only
  have := ltrim_le a
  rw [appN_ok (by omega)]
noncomputable def ofD (n : Int) : OL := ofF trimD n
theorem fnOf : FnT Tryz.prog 27 [.val tU64] rN fun x => ofD x.1 := mkT fun x y h => by
  obtain ⟨n, ⟨⟩⟩ := x
  exact ⟨_, okA, _, _, (e27_eq gA n).trans h⟩
theorem ofD_ok {n : Nat} (h : n < 18446744073709551616) : ofD (n : Int) = some (lb n, ()) := by
  unfold ofD ofF
  rw [onL_eq, trimD_ok (by simp)]
  have e1 : H (n : Int) = ((n % 4294967296 : Nat) : Int) := by rw [H_mod]; omega
  have e2 : H ((n : Int).fdiv 4294967296) = ((n / 4294967296 : Nat) : Int) := by rw [Int.fdiv_eq_ediv_of_nonneg _ (by decide), H_mod]; omega
  have hl : Limb [((n % 4294967296 : Nat) : Int), ((n / 4294967296 : Nat) : Int)] := Limb.mk (by omega) (Limb.one (by omega))
  rw [e1, e2, ltrim_lb hl]
  have hv : lval [((n % 4294967296 : Nat) : Int), ((n / 4294967296 : Nat) : Int)] = n := by simp only [lval, Int.toNat_natCast]; omega
  rw [hv]
noncomputable def addDn (a b : L) : OLI := addF limitD (SA gC) a b
theorem fnAdd : FnT Tryz.prog 45 sNN rNI fun x => addDn x.1 x.2.1 := mkT fun x y h => by
  obtain ⟨a, b, ⟨⟩⟩ := x
  exact ⟨_, okC, _, _, (e45_eq gC a b).trans h⟩
theorem addDn_ok {a b : L} (ha : Limb a) (hb : Limb b) (h1 : a.length ≤ 1000) (h2 : b.length ≤ 1000) : addDn a b = some (lb (lval a + lval b), 0, ()) :=
  addF_ok (SA_eq gC) ha hb h1 h2 fun _ h3 h4 => limitD_ok h3 h4
noncomputable def subDn (a b : L) : OLI := subF cmpDn limitD (SSb gC) a b
theorem fnSub : FnT Tryz.prog 47 sNN rNI fun x => subDn x.1 x.2.1 := mkT fun x y h => by
  obtain ⟨a, b, ⟨⟩⟩ := x
  exact ⟨_, okC, _, _, (e47_eq gC a b).trans h⟩
theorem subDn_ok {a b : L} (ha : Limb a) (hb : Limb b) (h1 : a.length ≤ 1000) (h2 : b.length ≤ a.length) (hv : lval b ≤ lval a) : subDn a b = some (lb (lval a - lval b), 0, ()) :=
  subF_ok (SSb_eq gC) ha hb h1 h2 hv (cmpDn_ok ha hb h1 (by omega)) fun _ h3 h4 => limitD_ok h3 h4
noncomputable def shrDn (a : L) (n : Int) : OLI := shrF limitD (SRr gC) a n
theorem fnShr : FnT Tryz.prog 41 sNI rNI fun x => shrDn x.1 x.2.1 := mkT fun x y h => by
  obtain ⟨a, n, ⟨⟩⟩ := x
  exact ⟨_, okC, _, _, (e41_eq gC a n).trans h⟩
theorem shrDn_ok {a : L} (ha : Limb a) (h1 : a.length ≤ 1000) {n : Nat} (hn : n ≤ 1000000) : shrDn a (n : Int) = some (lb (lval a / 2 ^ n), 0, ()) :=
  shrF_ok (SRr_eq gC) ha h1 hn fun _ h3 h4 => limitD_ok h3 h4
noncomputable def shlDn (a : L) (n : Int) : OLI := shlF trimD bitsD limitD (SLl gC) a n
theorem fnShl : FnT Tryz.prog 58 sNI rNI fun x => shlDn x.1 x.2.1 := mkT fun x y h => by
  obtain ⟨a, n, ⟨⟩⟩ := x
  exact ⟨_, okC, _, _, (e58_eq gC a n).trans h⟩
theorem shlDn_ok {a : L} (ha : Limb a) (h1 : a.length ≤ 100) {n : Nat} (hn : n ≤ 10000) : shlDn a (n : Int) = some (lb (lval a * 2 ^ n), 0, ()) := by
  have := ltrim_le a
  exact shlF_ok (SLl_eq gC) ha h1 hn (trimD_ok (by omega)) (bitsD_ok (limb_ltrim ha) (by omega)) fun _ h3 h4 => limitD_ok h3 h4
noncomputable def mulDn (a b : L) : OLI := mulF trimD bitsD limitD (SM0 gC) a b
theorem fnMul : FnT Tryz.prog 20 sNN rNI fun x => mulDn x.1 x.2.1 := mkT fun x y h => by
  obtain ⟨a, b, ⟨⟩⟩ := x
  exact ⟨_, okC, _, _, (e20_eq gC a b).trans h⟩
theorem mulDn_one {x y : Nat} (hx : x ≠ 0) (hy : y ≠ 0) (lx : x < 4294967296) (ly : y < 4294967296) : mulDn (lb x) (lb y) = some (lb (x * y), 0, ()) := by
  rw [lb_one hx lx, lb_one hy ly]
  exact mulF_one (SM2_eq gC) (SM0_eq gC) hx hy lx ly (fun _ h => trimD_ok h) (fun _ h1 h2 => bitsD_ok h1 h2) fun _ h3 h4 => limitD_ok h3 h4
theorem mulDn_nil {a b : L} (ha : Limb a) (hb : Limb b) (la : a.length ≤ 1010) (lb' : b.length ≤ 1010) (h0 : lval a = 0 ∨ lval b = 0) : mulDn a b = some ([], 0, ()) :=
  mulF_nil ha hb la lb' (fun _ h => trimD_ok h) h0
end Go.Pv.Dn
/-! ### The arithmetic of the navigation language on plain integers: values of doubles, rounding, roots, sines, vectors. -/
namespace Go.Nv
abbrev Db := Int × Int
abbrev Vc := Db × Db × Db
abbrev Mt := Vc × Vc × Vc

/-! ### Values -/
def wv (x : Int) : Int := if 16384 ≤ x % 32768 then x % 32768 - 32767 else x % 32768
def V (p : Db) : Int := wv p.1 * 16384 + wv p.2
def D (v : Int) : Db := if v < 0 then (32767 - (-v) / 16384, 32767 - (-v) % 16384) else (v / 16384, v % 16384)
def cl (v : Int) : Int × Bool := if v > 268435455 then (268435455, true) else if v < -268435455 then (-268435455, true) else (v, false)
def clD (v : Int) : Db × Bool := (D (cl v).1, (cl v).2)
def canon (p : Db) : Db := D (V p)
/-- in range -/
def In (v : Int) : Prop := -268435455 ≤ v ∧ v ≤ 268435455

theorem wv_range (x : Int) : -16383 ≤ wv x ∧ wv x ≤ 16383 := by
  unfold wv; split <;> omega
theorem V_in (p : Db) : In (V p) := by
  have h1 := wv_range p.1; have h2 := wv_range p.2
  unfold V In; omega
theorem cl_in (v : Int) : In (cl v).1 := by
  unfold cl In; split
  · simp
  · split
    · simp
    · simp only; omega
theorem cl_id {v : Int} (h : In v) : cl v = (v, false) := by
  unfold In at h; unfold cl; rw [if_neg (by omega), if_neg (by omega)]
theorem V_D {v : Int} (h : In v) : V (D v) = v := by
  unfold In at h
  unfold V D
  by_cases hn : v < 0
  · rw [if_pos hn]
    simp only
    unfold wv
    have e1 : (32767 - -v / 16384) % 32768 = 32767 - -v / 16384 := by omega
    have e2 : (32767 - -v % 16384) % 32768 = 32767 - -v % 16384 := by omega
    rw [e1, e2, if_pos (by omega), if_pos (by omega)]
    omega
  · rw [if_neg hn]
    simp only
    unfold wv
    have e1 : (v / 16384) % 32768 = v / 16384 := by omega
    have e2 : (v % 16384) % 32768 = v % 16384 := by omega
    rw [e1, e2, if_neg (by omega), if_neg (by omega)]
    omega
theorem V_clD (v : Int) : V (clD v).1 = (cl v).1 := V_D (cl_in v)
theorem V_canon (p : Db) : V (canon p) = V p := V_D (V_in p)
theorem canon_canon (p : Db) : canon (canon p) = canon p := by unfold canon; rw [V_D (V_in p)]
theorem canon_D {v : Int} (h : In v) : canon (D v) = D v := by unfold canon; rw [V_D h]
theorem D_words {v : Int} (h : In v) : 0 ≤ (D v).1 ∧ (D v).1 ≤ 32767 ∧ 0 ≤ (D v).2 ∧ (D v).2 ≤ 32767 := by
  unfold In at h
  unfold D
  split <;> simp only <;> omega
/-- canonical -/
def Cn (x : Db) : Prop := ∃ v, x = D v ∧ In v
theorem Cn.canon {x : Db} (h : Cn x) : canon x = x := by
  obtain ⟨v, rfl, h⟩ := h; exact canon_D h
theorem cn_canon (x : Db) : Cn (canon x) := ⟨_, rfl, V_in x⟩
theorem cn_clD (v : Int) : Cn (clD v).1 := ⟨_, rfl, cl_in v⟩

/-! ### Rounded quotients -/
def rq0 (p q : Int) : Int := p / q + (if q - p % q ≤ p % q then 1 else 0)
def rq (p q : Int) : Int := if p < 0 then -(rq0 (-p) q) else rq0 p q
theorem rq0_bound {p q b : Int} (hq : 0 < q) (h0 : 0 ≤ p) (h2 : p ≤ b * q) : 0 ≤ rq0 p q ∧ rq0 p q ≤ b := by
  unfold rq0
  have a1 : p / q ≤ b := Int.ediv_le_of_le_mul hq h2
  have a0 : 0 ≤ p / q := Int.ediv_nonneg h0 (by omega)
  have r0 : 0 ≤ p % q := Int.emod_nonneg _ (by omega)
  have e := Int.mul_ediv_add_emod p q
  by_cases hb : p / q = b
  · rw [hb] at e ⊢
    have : q * b = b * q := Int.mul_comm _ _
    have : p % q = 0 := by omega
    rw [this, if_neg (by omega)]; omega
  · split <;> omega
theorem rq_bound {p q b : Int} (hq : 0 < q) (h1 : -(b * q) ≤ p) (h2 : p ≤ b * q) : -b ≤ rq p q ∧ rq p q ≤ b := by
  unfold rq
  split
  · have := rq0_bound (p := -p) (b := b) hq (by omega) (by omega); omega
  · have := rq0_bound (p := p) (b := b) hq (by omega) (by omega); omega

/-! ### Roots -/
def rootN : Nat → Int → Int → Int
  | 0, _, r => r
  | i + 1, n, r => rootN i n (if (r + 2 ^ i) * (r + 2 ^ i) ≤ n then r + 2 ^ i else r)
def root (n : Int) : Int := rootN 31 n 0
theorem rootN_le : ∀ (i : Nat) (n r : Int), 0 ≤ r → r ≤ rootN i n r ∧ rootN i n r < r + 2 ^ i
  | 0, n, r, h => by simp only [rootN]; have : (2 : Int) ^ 0 = 1 := rfl; omega
  | i + 1, n, r, h => by
    simp only [rootN]
    have hp : (0 : Int) < 2 ^ i := Int.pow_pos (by decide)
    have e : (2 : Int) ^ (i + 1) = 2 ^ i * 2 := Int.pow_succ _ _
    split
    · have := rootN_le i n (r + 2 ^ i) (by omega); omega
    · have := rootN_le i n r h; omega
theorem rootN_spec : ∀ (i : Nat) (n r : Int), 0 ≤ r → r * r ≤ n → n < (r + 2 ^ i) * (r + 2 ^ i) → rootN i n r * rootN i n r ≤ n ∧ n < (rootN i n r + 1) * (rootN i n r + 1)
  | 0, n, r, h, h1, h2 => by
    simp only [rootN]
    have e : (2 : Int) ^ 0 = 1 := rfl
    rw [e] at h2; exact ⟨h1, h2⟩
  | i + 1, n, r, h, h1, h2 => by
    simp only [rootN]
    have hp : (0 : Int) < 2 ^ i := Int.pow_pos (by decide)
    have e : (2 : Int) ^ (i + 1) = 2 ^ i + 2 ^ i := by rw [Int.pow_succ]; omega
    rw [e, ← Int.add_assoc] at h2
    split
    · rename_i hs; exact rootN_spec i n _ (by omega) hs h2
    · rename_i hs; exact rootN_spec i n r h h1 (by omega)
theorem root_nonneg (n : Int) : 0 ≤ root n ∧ root n < 2147483648 := by
  have := rootN_le 31 n 0 (by omega)
  have e : (2 : Int) ^ 31 = 2147483648 := by decide
  unfold root; omega
theorem root_spec {n : Int} (h0 : 0 ≤ n) (h : n < 4611686018427387904) : root n * root n ≤ n ∧ n < (root n + 1) * (root n + 1) := by
  refine rootN_spec 31 n 0 (by omega) (by omega) ?_
  have e : ((0 : Int) + 2 ^ 31) * (0 + 2 ^ 31) = 4611686018427387904 := by decide
  rw [e]; exact h
theorem sq_lt_of {a b : Int} (ha : 0 ≤ a) (hb : 0 ≤ b) (h : a * a < b * b) : a < b := by
  apply Decidable.byContradiction
  intro hn
  have : b * b ≤ a * a := Int.mul_le_mul (by omega) (by omega) hb ha
  omega
theorem root_unique {n r : Int} (h0 : 0 ≤ n) (h : n < 4611686018427387904) (hr : 0 ≤ r) (h1 : r * r ≤ n) (h2 : n < (r + 1) * (r + 1)) : r = root n := by
  obtain ⟨a1, a2⟩ := root_spec h0 h
  have b := (root_nonneg n).1
  have l1 : r < root n + 1 := sq_lt_of hr (by omega) (by omega)
  have l2 : root n < r + 1 := sq_lt_of b (by omega) (by omega)
  omega
theorem root_pos {n : Int} (h0 : 0 < n) (h : n < 4611686018427387904) : 0 < root n := by
  have := root_spec (n := n) (by omega) h
  have b := (root_nonneg n).1
  apply Decidable.byContradiction
  intro hn
  have e : root n = 0 := by omega
  rw [e] at this
  have : n < (0 + 1) * (0 + 1) := this.2
  omega
/-- the nearest integer to a root -/
def near (n : Int) : Int := if n - root n * root n > root n then root n + 1 else root n

/-! ### Doubles -/
def add (p a : Db) : Db × Bool := clD (V p + V a)
def sub (p a : Db) : Db × Bool := clD (V p - V a)
def mulV (v w : Int) : Int := (cl (rq (v * w) 268435456)).1
def mul (p a : Db) : Db := D (mulV (V p) (V a))
def div1 (v w : Int) : Db × Bool :=
  if v < w ∧ -v < w then (D (cl (rq (v * 268435456) w)).1, false) else if v = 0 then ((0, 0), true) else if v < 0 then (D (-268435455), true) else (D 268435455, true)
def div (p a : Db) : Db × Bool := if V a < 0 then div1 (-(V p)) (-(V a)) else div1 (V p) (V a)
def neg (a : Db) : Db := D (-(V a))
def abs (a : Db) : Db := if V a < 0 then D (-(V a)) else D (V a)
def sqrt (a : Db) : Db × Bool := if V a < 0 then ((0, 0), true) else (D (cl (near (V a * 268435456))).1, false)
def half (v n : Int) : Int := rq v (2 ^ n.toNat)
def shift (a : Db) (n : Int) : Db × Bool :=
  if n < 0 then (D (half (V a) (min (-n) 56)), false) else clD ((if 28 < n then V a * 2 else V a) * 2 ^ (min n 28).toNat)

/-! ### Sines -/
def fold (v : Int) : Int :=
  let u := v % 268435456
  let u := if u ≥ 134217728 then u - 268435456 else u
  if u > 67108864 then 134217728 - u else if u < -67108864 then -134217728 - u else u
def horner (z : Int) : List Int → Int → Int
  | [], h => h
  | c :: r, h => horner z r (c + rq (z * h) 268435456)
def sineH (y : Int) : Int := horner (rq (y * y) 268435456) [-483, 21534, -628374, 10696163, -86699834, 210828714] 8
def sine (v : Int) : Db := D (cl (rq (4 * fold v * sineH (4 * fold v)) 268435456)).1
def sin (a : Db) : Db := sine (V a)
def cos (a : Db) : Db := sine (V a + 67108864)

/-! ### Vectors -/
def zero3 : Vc := ((0, 0), (0, 0), (0, 0))
def each (f : Db → Db → Db × Bool) (p a : Vc) : Vc × Bool := (((f p.1 a.1).1, (f p.2.1 a.2.1).1, (f p.2.2 a.2.2).1), (f p.1 a.1).2 || (f p.2.1 a.2.1).2 || (f p.2.2 a.2.2).2)
def map3 (f : Db → Db) (a : Vc) : Vc := (f a.1, f a.2.1, f a.2.2)
def vadd (p a : Vc) : Vc × Bool := each add p a
def vsub (p a : Vc) : Vc × Bool := each sub p a
def vneg (a : Vc) : Vc := (each sub zero3 a).1
def vshift (a : Vc) (n : Int) : Vc × Bool := each (fun x _ => shift x n) a a
def scale (a : Vc) (k : Db) : Vc := map3 (fun x => mul x k) a
def dotV (p a : Vc) : Int := V p.1 * V a.1 + V p.2.1 * V a.2.1 + V p.2.2 * V a.2.2
def rnd (n : Int) : Db × Bool := clD (rq n 268435456)
def dot (p a : Vc) : Db × Bool := rnd (dotV p a)
def cross (p a : Vc) : Vc × Bool :=
  let x := rnd (V p.2.1 * V a.2.2 - V p.2.2 * V a.2.1)
  let y := rnd (V p.2.2 * V a.1 - V p.1 * V a.2.2)
  let z := rnd (V p.1 * V a.2.1 - V p.2.1 * V a.1)
  ((x.1, y.1, z.1), x.2 || y.2 || z.2)
def length (a : Vc) : Db × Bool := clD (near (dotV a a))
def blen (n : Int) : Int := if n ≤ 0 then 0 else (Nat.log2 n.toNat : Int) + 1
def mag (v : Int) : Int := if v < 0 then -v else v
def nrm (p : Db) : Db × Int := if V p = 0 then ((0, 0), 0) else (D (V p * 2 ^ (28 - blen (mag (V p))).toNat), 28 - blen (mag (V p)))
def cnt1 (v c : Int) : Int := if v = 0 then c else min c (28 - blen (mag v))
def cnt (a : Vc) : Int := cnt1 (V a.2.2) (cnt1 (V a.2.1) (cnt1 (V a.1) 28))
def unitR (x y z : Int) : Vc :=
  let r := root (x * x + y * y + z * z)
  (D (cl (rq (x * 134217728) r)).1, D (cl (rq (y * 134217728) r)).1, D (cl (rq (z * 134217728) r)).1)
def unit (a : Vc) : Vc × Bool :=
  if V a.1 = 0 ∧ V a.2.1 = 0 ∧ V a.2.2 = 0 then (zero3, true) else
  (unitR (V a.1 * 2 ^ (cnt a).toNat) (V a.2.1 * 2 ^ (cnt a).toNat) (V a.2.2 * 2 ^ (cnt a).toNat), false)
def times (m : Mt) (a : Vc) : Vc × Bool := (((dot m.1 a).1, (dot m.2.1 a).1, (dot m.2.2 a).1), (dot m.1 a).2 || (dot m.2.1 a).2 || (dot m.2.2 a).2)
def trans (m : Mt) : Mt := ((canon m.1.1, canon m.2.1.1, canon m.2.2.1), (canon m.1.2.1, canon m.2.1.2.1, canon m.2.2.2.1), (canon m.1.2.2, canon m.2.1.2.2, canon m.2.2.2.2))
def turned (m : Mt) (a : Vc) : Vc × Bool := times (trans m) a
def Cn3 (x : Vc) : Prop := Cn x.1 ∧ Cn x.2.1 ∧ Cn x.2.2
theorem Cn3.canon {x : Vc} (h : Cn3 x) : map3 Nv.canon x = x := by
  unfold map3; rw [h.1.canon, h.2.1.canon, h.2.2.canon]
theorem cn3_canon (x : Vc) : Cn3 (map3 Nv.canon x) := ⟨cn_canon _, cn_canon _, cn_canon _⟩
theorem cn_zero : Cn (0, 0) := ⟨0, rfl, by unfold In; omega⟩
theorem cn3_zero : Cn3 zero3 := ⟨cn_zero, cn_zero, cn_zero⟩

/-! ### Bounds -/
theorem p2_pos (k : Nat) : (0 : Int) < 2 ^ k := Int.pow_pos (by decide)
theorem p2_le {k m : Nat} (h : k ≤ m) : (2 : Int) ^ k ≤ 2 ^ m := by
  have := Nat.pow_le_pow_right (n := 2) (by decide) h
  exact_mod_cast this
theorem half_bound {v n b : Int} (hb : 0 ≤ b) (h1 : -b ≤ v) (h2 : v ≤ b) : -b ≤ half v n ∧ half v n ≤ b := by
  unfold half
  have hp := p2_pos n.toNat
  have : b * 1 ≤ b * 2 ^ n.toNat := Int.mul_le_mul_of_nonneg_left (by omega) hb
  exact rq_bound hp (by omega) (by omega)
theorem rq_in {p q : Int} (hq : 0 < q) (h1 : -(268435455 * q) ≤ p) (h2 : p ≤ 268435455 * q) : In (rq p q) := rq_bound hq h1 h2
theorem blen_spec {n : Int} (h : 0 < n) : (2 : Int) ^ (Nat.log2 n.toNat) ≤ n ∧ n < 2 ^ (Nat.log2 n.toNat + 1) ∧ blen n = (Nat.log2 n.toNat : Int) + 1 := by
  have h0 : n.toNat ≠ 0 := by omega
  have h1 := Nat.log2_self_le h0
  have h2 := Nat.lt_log2_self (n := n.toNat)
  refine ⟨?_, ?_, if_neg (by omega)⟩
  · have : ((2 ^ Nat.log2 n.toNat : Nat) : Int) ≤ (n.toNat : Int) := by exact_mod_cast h1
    rw [Int.toNat_of_nonneg (by omega)] at this
    exact_mod_cast this
  · have : (n.toNat : Int) < ((2 ^ (Nat.log2 n.toNat + 1) : Nat) : Int) := by exact_mod_cast h2
    rw [Int.toNat_of_nonneg (by omega)] at this
    exact_mod_cast this
theorem blen_range {n : Int} (h0 : 0 ≤ n) (h : n ≤ 268435455) : 0 ≤ blen n ∧ blen n ≤ 28 := by
  by_cases hn : n ≤ 0
  · unfold blen; rw [if_pos hn]; omega
  · obtain ⟨a, _, c⟩ := blen_spec (n := n) (by omega)
    have : Nat.log2 n.toNat < 28 := by
      apply Decidable.byContradiction
      intro hh
      have := p2_le (k := 28) (m := Nat.log2 n.toNat) (by omega)
      have e : (2 : Int) ^ 28 = 268435456 := by decide
      omega
    omega
/-- shifted by no more than its free places a number stays in range -/
theorem shift_in {v c : Int} (hv : In v) (_h0 : 0 ≤ c) (hc : v ≠ 0 → c ≤ 28 - blen (mag v)) : In (v * 2 ^ c.toNat) := by
  unfold In at *
  by_cases hz : v = 0
  · subst hz; rw [Int.zero_mul]; omega
  · have hm : 0 < mag v := by unfold mag; split <;> omega
    have hm2 : mag v ≤ 268435455 := by unfold mag; split <;> omega
    obtain ⟨_, a, b⟩ := blen_spec hm
    have hc := hc hz
    have hr := blen_range (n := mag v) (by omega) hm2
    have hpp := p2_pos c.toNat
    have hlt : mag v * 2 ^ c.toNat < 268435456 := by
      have h1 : mag v * 2 ^ c.toNat < 2 ^ (Nat.log2 (mag v).toNat + 1) * 2 ^ c.toNat := Int.mul_lt_mul_of_pos_right a hpp
      rw [← Int.pow_add] at h1
      have h2 := p2_le (k := Nat.log2 (mag v).toNat + 1 + c.toNat) (m := 28) (by omega)
      have e : (2 : Int) ^ 28 = 268435456 := by decide
      omega
    unfold mag at hlt
    split at hlt
    · rw [Int.neg_mul] at hlt
      have : v * 2 ^ c.toNat < 0 := Int.mul_neg_of_neg_of_pos (by omega) hpp
      omega
    · have : 0 ≤ v * 2 ^ c.toNat := Int.mul_nonneg (by omega) (by omega)
      omega
theorem mul_in {x y : Int} (hx : In x) (hy : In y) : -72057593501057025 ≤ x * y ∧ x * y ≤ 72057593501057025 := by
  unfold In at *
  have h := Int.natAbs_mul x y
  have h2 : x.natAbs * y.natAbs ≤ 268435455 * 268435455 := Nat.mul_le_mul (by omega) (by omega)
  omega
theorem mul_lim {x y a b : Int} (ha : 0 ≤ a) (hb : 0 ≤ b) (hx : -a ≤ x ∧ x ≤ a) (hy : -b ≤ y ∧ y ≤ b) : -(a * b) ≤ x * y ∧ x * y ≤ a * b := by
  have h := Int.natAbs_mul x y
  have h2 : x.natAbs * y.natAbs ≤ a.toNat * b.toNat := Nat.mul_le_mul (by omega) (by omega)
  have h3 : ((a.toNat * b.toNat : Nat) : Int) = a * b := by
    rw [Int.natCast_mul, Int.toNat_of_nonneg ha, Int.toNat_of_nonneg hb]
  omega
theorem mul_self_nonneg (x : Int) : 0 ≤ x * x := by
  rcases Int.le_total 0 x with h | h
  · exact Int.mul_nonneg h h
  · exact Int.mul_nonneg_of_nonpos_of_nonpos h h
theorem dotV_in (p a : Vc) : -216172780503171075 ≤ dotV p a ∧ dotV p a ≤ 216172780503171075 := by
  have h1 := mul_in (V_in p.1) (V_in a.1)
  have h2 := mul_in (V_in p.2.1) (V_in a.2.1)
  have h3 := mul_in (V_in p.2.2) (V_in a.2.2)
  unfold dotV; omega
theorem fold_in (v : Int) : -67108864 ≤ fold v ∧ fold v ≤ 67108864 := by
  unfold fold
  simp only
  split <;> split <;> (try split) <;> omega
theorem cnt_range (a : Vc) : 0 ≤ cnt a ∧ cnt a ≤ 28 ∧ (V a.1 ≠ 0 → cnt a ≤ 28 - blen (mag (V a.1))) ∧ (V a.2.1 ≠ 0 → cnt a ≤ 28 - blen (mag (V a.2.1))) ∧ (V a.2.2 ≠ 0 → cnt a ≤ 28 - blen (mag (V a.2.2))) := by
  have hb : ∀ d : Db, 0 ≤ blen (mag (V d)) ∧ blen (mag (V d)) ≤ 28 := fun d => by
    have := V_in d
    unfold In at this
    exact blen_range (by unfold mag; split <;> omega) (by unfold mag; split <;> omega)
  have h1 := hb a.1; have h2 := hb a.2.1; have h3 := hb a.2.2
  unfold cnt cnt1
  generalize blen (mag (V a.1)) = x at *
  generalize blen (mag (V a.2.1)) = y at *
  generalize blen (mag (V a.2.2)) = z at *
  split <;> split <;> split <;> omega
end Go.Nv
/-! ### One instruction of the navigation language, on plain data. -/
namespace Go.Nv
/-- operation, argument, second argument, literal -/
abbrev Ins := Int × Int × Int × Vc
abbrev Out := Int × Int × Db
/-- index, mode, accumulator, list, its entries' modes, overflow, outputs -/
abbrev Regs := Int × Int × Vc × List Db × List Int × Bool × List Out
abbrev Cell := Int × Int
/-- registers, cells, event, number, error -/
abbrev Res := Regs × List Cell × Int × Int × Int × Unit
def regs0 : Regs := (0, 0, zero3, [], [], false, [])
def err (e : Int) : Res := (regs0, [], 0, 0, e, ())
def size (m : Int) : Int := if m = 2 then 3 else 1
def need : List Int → Int
  | [] => 0
  | m :: r => size m + need r
def modesOk (l : List Int) : Bool := l.all fun m => decide (m = 1) || decide (m = 2)
def valid (g : Regs) : Bool :=
  modesOk g.2.2.2.2.1 && decide (g.2.1 ≤ 2) && decide ((g.2.2.2.1.length : Int) = need g.2.2.2.2.1) && decide (need g.2.2.2.2.1 ≤ 18) && decide ((g.2.2.2.2.2.2.length : Int) ≤ 8)
/-- words at an instruction's address -/
def words (op : Int) : Int := if op = 1 ∨ op = 3 then 2 else if op = 2 ∨ op = 4 then 6 else if op = 31 ∨ op = 32 then 18 else 0
abbrev Form := Int × Int × Int × Int × Bool
def insL : List Int := [0, 0, 0, 1, 2, 0, 0, 0, 0, 0, 1, 1, 1, 1, 1, 1, 1, 1, 1, 1, 2, 2, 2, 2, 2, 1, 2, 2, 2, 2, 1, 2, 2, 1, 1, 1, 0, 1, 0]
def pop1L : List Int := [0, 0, 0, 0, 0, 0, 0, 0, 1, 2, 1, 1, 1, 1, 0, 0, 0, 0, 0, 0, 2, 2, 0, 2, 2, 2, 0, 0, 0, 0, 1, 0, 0, 0, 0, 0, 0, 0, 0]
def pop2L : List Int := [0, 0, 0, 0, 0, 0, 0, 0, 0, 0, 0, 0, 0, 0, 0, 0, 0, 0, 0, 0, 0, 0, 0, 0, 0, 0, 0, 0, 0, 0, 1, 0, 0, 0, 0, 0, 0, 0, 0]
def outsL : List Int := [0, 1, 2, 0, 0, 1, 2, 0, 1, 2, 1, 1, 1, 1, 1, 1, 1, 1, 1, 1, 2, 2, 2, 1, 2, 2, 2, 1, 2, 1, 2, 2, 2, 0, 0, 0, 0, 0, 0]
/-- accumulator's mode before, modes popped, mode after, push -/
def form (k : Int) : Form := (insL.getD k.toNat 0, pop1L.getD k.toNat 0, pop2L.getD k.toNat 0, outsL.getD k.toNat 0, k == 7)
def word (er : List Int) (i : Int) : Int := er.getD i.toNat 0
def readV (er : List Int) (i : Int) : Vc := (canon (word er i, word er (i + 1)), canon (word er (i + 2), word er (i + 3)), canon (word er (i + 4), word er (i + 5)))
def rows (er : List Int) (i : Int) : Mt := (readV er i, readV er (i + 6), readV er (i + 12))
def comp (a : Vc) (n : Int) : Db := if n = 0 then a.1 else if n = 1 then a.2.1 else a.2.2
def one (d : Db × Bool) : Vc × Bool := ((d.1, (0, 0), (0, 0)), d.2)
def scalar (i : Ins) (p a : Db) : Db × Bool :=
  if i.1 = 10 then add p a else if i.1 = 11 then sub p a else if i.1 = 12 then (mul p a, false) else if i.1 = 13 then div p a else
  if i.1 = 14 then (neg a, false) else if i.1 = 15 then (abs a, false) else if i.1 = 16 then sqrt a else if i.1 = 17 then (sin a, false) else
  if i.1 = 18 then (cos a, false) else shift a i.2.1
def product (i : Ins) (p a : Vc) : Db × Bool := if i.1 = 23 then dot p a else if i.1 = 27 then length a else (comp a i.2.1, false)
def compute (i : Ins) (p q a : Vc) (er : List Int) : Vc × Bool :=
  if i.1 = 1 ∨ i.1 = 2 then (readV er i.2.1, false) else if i.1 = 5 ∨ i.1 = 6 then (i.2.2.2, false) else if i.1 = 8 ∨ i.1 = 9 then (p, false) else
  if i.1 = 20 then vadd p a else if i.1 = 21 then vsub p a else if i.1 = 22 then (vneg a, false) else if i.1 = 24 then cross p a else
  if i.1 = 25 then (scale p a.1, false) else if i.1 = 26 then vshift a i.2.1 else if i.1 = 28 then unit a else if i.1 = 30 then ((q.1, p.1, a.1), false) else
  if i.1 = 31 then times (rows er i.2.1) a else if i.1 = 32 then turned (rows er i.2.1) a else
  if i.1 = 23 ∨ i.1 = 27 ∨ i.1 = 29 then one (product i p a) else one (scalar i p.1 a.1)
def held (v : Vc) (m : Int) : Vc := if m = 2 then map3 canon v else (canon v.1, (0, 0), (0, 0))
def topV (l : List Db) (e : Int) (m : Int) : Vc :=
  if m = 2 then (l.getD (e - 3).toNat (0, 0), l.getD (e - 2).toNat (0, 0), l.getD (e - 1).toNat (0, 0)) else (l.getD (e - 1).toNat (0, 0), (0, 0), (0, 0))
/-- an entry of the list: it, the doubles from it on, an error -/
def top (g : Regs) (m skip above : Int) : Vc × Int × Int :=
  if m = 0 then (zero3, above, 0) else
  if (g.2.2.2.2.1.length : Int) - 1 - skip < 0 then (zero3, 0, 14) else
  if g.2.2.2.2.1.getD ((g.2.2.2.2.1.length : Int) - 1 - skip).toNat 0 ≠ m then (zero3, 0, 6) else
  (topV g.2.2.2.1 ((g.2.2.2.1.length : Int) - above) m, above + size m, 0)
/-- the errors of the accumulator and of the limits -/
def checkF (i : Ins) (f : Form) (g : Regs) : Int :=
  if words i.1 > 0 ∧ i.2.1 + words i.1 - 1 > 2047 then 3 else
  if (f.1 ≠ 0 ∧ g.2.1 ≠ f.1) ∨ (f.2.2.2.2 = true ∧ g.2.1 = 0) then 6 else 0
def check (i : Ins) (g : Regs) : Int := checkF i (form i.1) g
def pops (m : Int) : Int := if m = 0 then 0 else 1
/-- the registers behind the instruction, but for its result -/
def popped (g : Regs) (next above many : Int) : Regs :=
  (next, g.2.1, g.2.2.1, g.2.2.2.1.take ((g.2.2.2.1.length : Int) - above).toNat, g.2.2.2.2.1.take ((g.2.2.2.2.1.length : Int) - many).toNat, g.2.2.2.2.2.1, g.2.2.2.2.2.2)
def cells2 (at_ : Int) (d : Db) : List Cell := [(at_, d.1), (at_ + 1, d.2)]
def cells (at_ : Int) (m : Int) (a : Vc) : List Cell := if m = 2 then cells2 at_ a.1 ++ (cells2 (at_ + 2) a.2.1 ++ cells2 (at_ + 4) a.2.2) else cells2 at_ a.1
def vals (m : Int) (a : Vc) : List Db := if m = 2 then [a.1, a.2.1, a.2.2] else [a.1]
/-- an instruction that leaves the accumulator as it is -/
def move (i : Ins) (h : Regs) (a : Vc) : Res :=
  if i.1 = 3 ∨ i.1 = 4 then (h, cells i.2.1 h.2.1 a, 0, 0, 0, ()) else
  if i.1 = 7 then (if (h.2.2.2.1.length : Int) + size h.2.1 > 18 then err 13 else
    ((h.1, h.2.1, h.2.2.1, h.2.2.2.1 ++ vals h.2.1 a, h.2.2.2.2.1 ++ [h.2.1], h.2.2.2.2.2.1, h.2.2.2.2.2.2), [], 0, 0, 0, ())) else
  if i.1 = 33 ∨ i.1 = 34 ∨ i.1 = 35 then (if (h.2.2.2.2.2.2.length : Int) ≥ 8 then err 13 else
    ((h.1, h.2.1, h.2.2.1, h.2.2.2.1, h.2.2.2.2.1, h.2.2.2.2.2.1, h.2.2.2.2.2.2 ++ [(i.1, i.2.1, a.1)]), [], 0, 0, 0, ())) else
  if i.1 = 37 then (h, [], 1, if V a.1 < 0 then i.2.1 else i.2.2.1, 0, ()) else
  if i.1 = 36 then (h, [], 1, i.2.1, 0, ()) else
  if i.1 = 38 then (h, [], 2, 0, 0, ()) else (h, [], 0, 0, 0, ())
/-- the registers with a result -/
def result (i : Ins) (h : Regs) (v : Vc × Bool) : Regs := (h.1, (form i.1).2.2.2.1, held v.1 (form i.1).2.2.2.1, h.2.2.2.1, h.2.2.2.2.1, h.2.2.2.2.2.1 || v.2, h.2.2.2.2.2.2)
def exec (i : Ins) (next : Int) (er : List Int) (g : Regs) : Res :=
  if check i g ≠ 0 then err (check i g) else
  let p := top g (form i.1).2.1 0 0
  if p.2.2 ≠ 0 then err p.2.2 else
  let q := top g (form i.1).2.2.1 1 p.2.1
  if q.2.2 ≠ 0 then err q.2.2 else
  let h := popped g next q.2.1 (pops (form i.1).2.1 + pops (form i.1).2.2.1)
  if (form i.1).2.2.2.1 ≠ 0 then (result i h (compute i p.1 q.1 g.2.2.1 er), [], 0, 0, 0, ()) else move i h (held g.2.2.1 g.2.1)
end Go.Nv
/-! ### Arithmetic against exact dyadic numbers, on plain data. -/
namespace Go.Nv
/-- the value of a double, exactly -/
def dyD (p : Db) : Dy := dyI (V p) (-28)
theorem dig28 (n : Nat) : rndN n 28 = n / 268435456 + n / 134217728 % 2 := rfl
theorem rq_rnd (p : Int) : rq p 268435456 = si (decide (p < 0)) (rndN p.natAbs 28) := by
  rw [dig28]
  unfold rq rq0 si
  by_cases h : p < 0
  · rw [if_pos h, decide_eq_true h, if_pos rfl]
    obtain ⟨n, hn⟩ := Int.eq_ofNat_of_zero_le (show 0 ≤ -p by omega)
    have e : p.natAbs = n := by omega
    rw [e, hn]
    split <;> omega
  · have hno : ¬ false = true := by simp
    rw [if_neg h, decide_eq_false h, if_neg hno]
    obtain ⟨n, hn⟩ := Int.eq_ofNat_of_zero_le (show 0 ≤ p by omega)
    have e : p.natAbs = n := by omega
    rw [e, hn]
    split <;> omega
/-- a product, a sum of products: rounded -/
theorem round_prod (n : Int) : roundD (dyI n (-56)) 28 = dyI (rq n 268435456) (-28) := by
  have h := roundD_ok (v := n) (e := -56) (k := 28) (d := 28) (by decide) (by decide)
  rw [h, ← rq_rnd]
/-- a sum: there is nothing to round -/
theorem round_sum (n : Int) : roundD (dyI n (-28)) 28 = dyI n (-28) := by
  unfold roundD
  by_cases h : n = 0
  · subst h; rw [dyI_zero, if_pos (.inr rfl)]
  · rw [dyI_form h, if_pos (.inl (by simp only; omega))]
def oneD : Dy := dyI 1 0
def bigD (r : Dy) : Int := cmpD (plusD (if r.1 = true then negD r else r) (negD oneD))
theorem bigD_ok {t : Int} (h : t ≠ 0) : bigD (dyI t (-28)) = if (t.natAbs : Int) - 268435456 = 0 then 0 else if (t.natAbs : Int) - 268435456 < 0 then -1 else 1 := by
  have e1 : (if (dyI t (-28)).1 = true then negD (dyI t (-28)) else dyI t (-28)) = dyI (t.natAbs : Int) (-28) := by
    rw [dyI_neg h]
    by_cases hn : t < 0
    · rw [if_pos (decide_eq_true hn), negD_ok]; congr 1; omega
    · rw [if_neg (by simpa using hn)]; congr 1; omega
  unfold bigD oneD
  rw [e1, negD_ok, plusD_ok (m := -28) (Int.le_refl _) (by decide), cmpD_ok]
  have e2 : (2 ^ ((0 : Int) - -28).toNat : Nat) = 268435456 := by decide
  have e3 : (2 ^ ((-28 : Int) - -28).toNat : Nat) = 1 := by decide
  rw [e2, e3]
  have e4 : (t.natAbs : Int) * ((1 : Nat) : Int) + -1 * ((268435456 : Nat) : Int) = (t.natAbs : Int) - 268435456 := by omega
  rw [e4]
/-- what the law asks of a clamped result -/
def fineA (acc : Db) (ov : Bool) (x r : Dy) : Bool :=
  if ov = true then decide (bigD r ≥ 0) && (decide (V acc = 268435455) || decide (V acc = -268435455)) && (decide (V acc < 0) == x.1) else decide (dyD acc = r)
theorem fineA_ok {t : Int} {x : Dy} (hx : t ≠ 0 → x.1 = decide (t < 0)) : fineA (clD t).1 (clD t).2 x (dyI t (-28)) = true := by
  unfold fineA
  have hv : V (clD t).1 = (cl t).1 := V_clD t
  have h2 : (clD t).2 = (cl t).2 := rfl
  rw [h2, hv]
  unfold dyD
  rw [hv]
  unfold cl
  by_cases h : t > 268435455
  · rw [if_pos h, if_pos rfl, bigD_ok (by omega), hx (by omega)]
    have : ¬ (t.natAbs : Int) - 268435456 < 0 := by omega
    have h9 : ¬ t < 0 := by omega
    by_cases h0 : (t.natAbs : Int) - 268435456 = 0
    · rw [if_pos h0, decide_eq_false h9]; decide
    · rw [if_neg h0, if_neg this, decide_eq_false h9]; decide
  · rw [if_neg h]
    by_cases h' : t < -268435455
    · rw [if_pos h', if_pos rfl, bigD_ok (by omega), hx (by omega)]
      have : ¬ (t.natAbs : Int) - 268435456 < 0 := by omega
      by_cases h0 : (t.natAbs : Int) - 268435456 = 0
      · rw [if_pos h0, decide_eq_true (show t < 0 by omega)]; decide
      · rw [if_neg h0, if_neg this, decide_eq_true (show t < 0 by omega)]; decide
    · rw [if_neg h', if_neg (by simp)]; simp
theorem add_exact (p a : Db) : fineA (add p a).1 (add p a).2 (plusD (dyD p) (dyD a)) (roundD (plusD (dyD p) (dyD a)) 28) = true := by
  have e : plusD (dyD p) (dyD a) = dyI (V p + V a) (-28) := by
    unfold dyD
    rw [plusD_ok (m := -28) (Int.le_refl _) (Int.le_refl _)]
    have e3 : (2 ^ ((-28 : Int) - -28).toNat : Nat) = 1 := by decide
    rw [e3]; congr 1; omega
  rw [e, round_sum]
  exact fineA_ok fun h => dyI_neg h
theorem sub_exact (p a : Db) : fineA (sub p a).1 (sub p a).2 (plusD (dyD p) (negD (dyD a))) (roundD (plusD (dyD p) (negD (dyD a))) 28) = true := by
  have e : plusD (dyD p) (negD (dyD a)) = dyI (V p - V a) (-28) := by
    unfold dyD
    rw [negD_ok, plusD_ok (m := -28) (Int.le_refl _) (Int.le_refl _)]
    have e3 : (2 ^ ((-28 : Int) - -28).toNat : Nat) = 1 := by decide
    rw [e3]; congr 1; omega
  rw [e, round_sum]
  exact fineA_ok fun h => dyI_neg h
theorem prod_bd {v w b : Int} (hv : In v) (hw : In w) (hb : b = 72057593501057025) : -b ≤ v * w ∧ v * w ≤ b := by
  unfold In at hv hw
  have h1 : (v.natAbs : Int) ≤ 268435455 := by omega
  have h2 : (w.natAbs : Int) ≤ 268435455 := by omega
  have h3 := Int.mul_le_mul h1 h2 (by omega) (by decide)
  rw [← Int.natCast_mul, ← Int.natAbs_mul] at h3
  have e : (268435455 : Int) * 268435455 = 72057593501057025 := by decide
  omega
theorem rq_in56 {n : Int} (h : -72057593501057025 ≤ n ∧ n ≤ 72057593501057025) : In (rq n 268435456) := by
  unfold In rq rq0
  by_cases hn : n < 0
  · rw [if_pos hn]; split <;> omega
  · rw [if_neg hn]; split <;> omega
theorem rq_neg {n : Int} (h : rq n 268435456 ≠ 0) : decide (n < 0) = decide (rq n 268435456 < 0) := by
  unfold rq rq0 at h ⊢
  by_cases hn : n < 0
  · rw [if_pos hn] at h ⊢
    rw [decide_eq_true hn, decide_eq_true]
    split at h <;> rename_i hc
    · rw [if_pos hc]; omega
    · rw [if_neg hc]; omega
  · rw [if_neg hn] at h ⊢
    rw [decide_eq_false hn, decide_eq_false]
    split <;> omega
theorem mul_exact (p a : Db) : fineA (mul p a) false (mulD (dyD p) (dyD a)) (roundD (mulD (dyD p) (dyD a)) 28) = true := by
  have e : mulD (dyD p) (dyD a) = dyI (V p * V a) (-56) := by unfold dyD; rw [mulD_ok]; rfl
  rw [e, round_prod]
  have hin := rq_in56 (prod_bd (V_in p) (V_in a) rfl)
  unfold fineA
  rw [if_neg (by simp)]
  unfold mul mulV dyD
  rw [V_D (cl_in _), cl_id hin]; simp
/-- a scalar product, exactly -/
def dotX (p a : Vc) : Dy := plusD (plusD (plusD dyZ (mulD (dyD p.1) (dyD a.1))) (mulD (dyD p.2.1) (dyD a.2.1))) (mulD (dyD p.2.2) (dyD a.2.2))
theorem plus56 (v w : Int) : plusD (dyI v (-56)) (dyI w (-56)) = dyI (v + w) (-56) := by
  rw [plusD_ok (m := -56) (Int.le_refl _) (Int.le_refl _)]
  have e3 : (2 ^ ((-56 : Int) - -56).toNat : Nat) = 1 := by decide
  rw [e3]; congr 1; omega
theorem dotX_eq (p a : Vc) : dotX p a = dyI (dotV p a) (-56) := by
  have e : ∀ x y : Db, mulD (dyD x) (dyD y) = dyI (V x * V y) (-56) := fun x y => by unfold dyD; rw [mulD_ok]; rfl
  unfold dotX
  rw [e, e, e, show dyZ = dyI 0 (-56) from (dyI_zero _).symm, plus56, plus56, plus56]
  unfold dotV
  congr 1; omega
theorem dot_exact (p a : Vc) : fineA (dot p a).1 (dot p a).2 (dotX p a) (roundD (dotX p a) 28) = true := by
  rw [dotX_eq, round_prod]
  refine fineA_ok fun h => ?_
  have hn : dotV p a ≠ 0 := fun e => h (by rw [e]; rfl)
  rw [dyI_neg hn]; exact rq_neg h
/-! ### Quotients -/
def farD (q p a : Db) : Dy := (false, (plusD (mulD (dyD q) (dyD a)) (negD (dyD p))).2.1, (plusD (mulD (dyD q) (dyD a)) (negD (dyD p))).2.2)
def roomD (a : Db) : Dy := (false, (plusD (mulD (dyI 1 (-29)) (dyD a)) (negD dyZ)).2.1, (plusD (mulD (dyI 1 (-29)) (dyD a)) (negD dyZ)).2.2)
def mxI (a : Int) : Int := if -a > a then -a else a
def fineQ (q : Db) (ov : Bool) (p a : Db) : Bool :=
  (ov == decide (mxI (V p) ≥ mxI (V a))) && (if ov = true then true else decide (cmpD (plusD (farD q p a) (negD (roomD a))) ≤ 0))
theorem farD_eq (q p a : Db) : farD q p a = dyI ((V q * V a - V p * 268435456).natAbs : Int) (-56) := by
  have e : mulD (dyD q) (dyD a) = dyI (V q * V a) (-56) := by unfold dyD; rw [mulD_ok]; rfl
  unfold farD
  rw [e]
  unfold dyD
  rw [negD_ok, plusD_ok (m := -56) (Int.le_refl _) (by decide), absD_ok]
  have e3 : (2 ^ ((-56 : Int) - -56).toNat : Nat) = 1 := by decide
  have e4 : (2 ^ ((-28 : Int) - -56).toNat : Nat) = 268435456 := by decide
  rw [e3, e4]
  congr 3; omega
theorem roomD_eq (a : Db) : roomD a = dyI ((V a).natAbs : Int) (-57) := by
  have e : mulD (dyI 1 (-29)) (dyD a) = dyI (V a) (-57) := by unfold dyD; rw [mulD_ok]; congr 1; omega
  unfold roomD
  rw [e, show dyZ = dyI 0 (-57) from (dyI_zero _).symm, negD_ok, plusD_ok (m := -57) (Int.le_refl _) (Int.le_refl _), absD_ok]
  have e3 : (2 ^ ((-57 : Int) - -57).toNat : Nat) = 1 := by decide
  rw [e3]
  congr 3; omega
theorem order_ok {q p a : Db} (h : 2 * (V q * V a - V p * 268435456).natAbs ≤ (V a).natAbs) : cmpD (plusD (farD q p a) (negD (roomD a))) ≤ 0 := by
  rw [farD_eq, roomD_eq, negD_ok, plusD_ok (m := -57) (by decide) (Int.le_refl _), cmpD_ok]
  have e3 : (2 ^ ((-57 : Int) - -57).toNat : Nat) = 1 := by decide
  have e4 : (2 ^ ((-56 : Int) - -57).toNat : Nat) = 2 := by decide
  rw [e3, e4]
  split
  · decide
  · split
    · decide
    · omega
/-- a rounded quotient, times the divisor -/
theorem rq0_near {n w : Int} (hn : 0 ≤ n) (hw : 0 < w) : -w ≤ 2 * (rq0 n w * w - n) ∧ 2 * (rq0 n w * w - n) ≤ w := by
  have e := Int.mul_ediv_add_emod n w
  have r0 := Int.emod_nonneg n (show w ≠ 0 by omega)
  have r1 := Int.emod_lt_of_pos n hw
  have e2 : n / w * w = w * (n / w) := Int.mul_comm _ _
  unfold rq0
  split
  · rw [Int.add_mul, Int.one_mul, e2]
    generalize w * (n / w) = X at *
    omega
  · rw [Int.add_zero, e2]
    generalize w * (n / w) = X at *
    omega
theorem rq_near {n w : Int} (hw : 0 < w) : 2 * (rq n w * w - n).natAbs ≤ w.natAbs := by
  unfold rq
  split
  · have := rq0_near (n := -n) (by omega) hw
    rw [Int.neg_mul]
    generalize rq0 (-n) w * w = X at *
    omega
  · have := rq0_near (n := n) (by omega) hw
    generalize rq0 n w * w = X at *
    omega
theorem rq_quot {v w : Int} (hw : In w) (h1 : v < w) (h2 : -v < w) : In (rq (v * 268435456) w) := by
  unfold In at hw
  have hw0 : 0 < w := by omega
  have key : ∀ n : Int, 0 ≤ n → n < w → rq0 (n * 268435456) w ≤ 268435455 ∧ 0 ≤ rq0 (n * 268435456) w := by
    intro n h0 hn
    have nb := rq0_near (n := n * 268435456) (w := w) (by omega) hw0
    have h3 : 0 ≤ rq0 (n * 268435456) w := by
      unfold rq0
      have := Int.ediv_nonneg (show 0 ≤ n * 268435456 by omega) (show 0 ≤ w by omega)
      split <;> omega
    refine ⟨?_, h3⟩
    by_cases h : rq0 (n * 268435456) w < 268435456
    · omega
    · have h : 268435456 ≤ rq0 (n * 268435456) w := by omega
      have := Int.mul_le_mul h (Int.le_refl w) (by omega) (by omega)
      generalize rq0 (n * 268435456) w * w = X at *
      omega
  unfold In rq
  by_cases hn : v * 268435456 < 0
  · rw [if_pos hn]
    have := key (-v) (by omega) h2
    rw [Int.neg_mul] at this
    omega
  · rw [if_neg hn]
    have := key v (by omega) h1
    omega
theorem div_exact (p a : Db) : fineQ (div p a).1 (div p a).2 p a = true := by
  have hp := V_in p
  have ha := V_in a
  have main : ∀ v w : Int, In v → In w → 0 ≤ w → (V p = v ∧ V a = w) ∨ (V p = -v ∧ V a = -w) → fineQ (div1 v w).1 (div1 v w).2 p a = true := by
    intro v w hv hw h0 hs
    unfold div1 fineQ mxI
    unfold In at hv hw
    by_cases h : v < w ∧ -v < w
    · rw [if_pos h]
      have hin := rq_quot (v := v) hw h.1 h.2
      have hno : ¬ (if -(V p) > V p then -(V p) else V p) ≥ (if -(V a) > V a then -(V a) else V a) := by
        rcases hs with ⟨e1, e2⟩ | ⟨e1, e2⟩ <;> rw [e1, e2] <;> split <;> split <;> omega
      rw [decide_eq_false hno]
      have hq : V (D (cl (rq (v * 268435456) w)).1) = rq (v * 268435456) w := by rw [V_D (cl_in _), cl_id hin]
      have hord := order_ok (q := D (cl (rq (v * 268435456) w)).1) (p := p) (a := a) (by
        rw [hq]
        have hn := rq_near (n := v * 268435456) (w := w) (by omega)
        rcases hs with ⟨e1, e2⟩ | ⟨e1, e2⟩
        · rw [e1, e2]; exact hn
        · rw [e1, e2, Int.mul_neg, Int.neg_mul]
          generalize rq (v * 268435456) w * w = X at *
          omega)
      simp only
      rw [decide_eq_true hord]; decide
    · rw [if_neg h]
      have hyes : (if -(V p) > V p then -(V p) else V p) ≥ (if -(V a) > V a then -(V a) else V a) := by
        rcases hs with ⟨e1, e2⟩ | ⟨e1, e2⟩ <;> rw [e1, e2] <;> split <;> split <;> omega
      rw [decide_eq_true hyes]
      split
      · simp
      · split <;> simp
  unfold div
  by_cases hw : V a < 0
  · rw [if_pos hw]
    exact main _ _ (by unfold In at *; omega) (by unfold In at *; omega) (by omega) (.inr ⟨by omega, by omega⟩)
  · rw [if_neg hw]
    exact main _ _ hp ha (by omega) (.inl ⟨rfl, rfl⟩)
end Go.Nv
/-! ### Dyadic numbers: the program's functions as the code says it. -/
namespace Go.Pv.Dn
open Go.Proofs Go.Pv.Nn Go.Nv
set_option maxRecDepth 1000000
@[reducible] def tDy : Ty := .pair .bool (.pair tN tI)
@[reducible] def sDy : Sig := [.agg tDy]
@[reducible] def sDD : Sig := [.agg tDy, .agg tDy]
@[reducible] def sCan : Sig := [.val .bool, .val tN, .val tI]
@[reducible] def rDy : TSh := [Sl.agg 0 tDy]
@[reducible] def rDyI : TSh := [Sl.agg 0 tDy, Sl.val 1 tI]
@[reducible] def rDDI : TSh := [Sl.agg 0 tDy, Sl.agg 1 tDy, Sl.val 2 tI]
abbrev ODy := Option (Dy × Unit)
abbrev ODyI := Option (Dy × Int × Unit)
abbrev ODDI := Option (Dy × Dy × Int × Unit)
/-- what a call answers, looked at -/
def nx {α β γ : Type} (o : Option (α × β)) (k : α → β → Option γ) : Option γ := match o with
  | none => none
  | some y => k y.1 y.2
structure GDy where
  bits : L → OI
  norm : L → OL
  ofn : Int → OL
  shr : L → Int → OLI
  shl : L → Int → OLI
  add : L → L → OLI
  sub : L → L → OLI
  mul : L → L → OLI
  cmp : L → L → OI
  can : Bool → L → Int → ODy
  out : Dy → ODyI
  inn : Dy → ODyI
  two : Dy → Dy → ODDI
  neg : Dy → ODy
  plus : Dy → Dy → ODy
def specsDy (g : GDy) (R : Type) (fn : FuncId) : Option (List V → Mem → Nat → (Eff → Option R) → Option R) :=
  match fn with
  | 38 => some (specT sN rI1 fun x => g.bits x.1)
  | 40 => some (specT sN [Sl.row 0 tU32] fun x => g.norm x.1)
  | 27 => some (specT [.val tU64] rN fun x => g.ofn x.1)
  | 41 => some (specT sNI rNI fun x => g.shr x.1 x.2.1)
  | 58 => some (specT sNI rNI fun x => g.shl x.1 x.2.1)
  | 45 => some (specT sNN rNI fun x => g.add x.1 x.2.1)
  | 47 => some (specT sNN rNI fun x => g.sub x.1 x.2.1)
  | 20 => some (specT sNN rNI fun x => g.mul x.1 x.2.1)
  | 46 => some (specT sNN rI1 fun x => g.cmp x.1 x.2.1)
  | 21 => some (specT sCan rDy fun x => g.can x.1 x.2.1 x.2.2.1)
  | 22 => some (specT sDy rDyI fun x => g.out x.1)
  | 34 => some (specT sDy rDyI fun x => g.inn x.1)
  | 19 => some (specT sDD rDDI fun x => g.two x.1 x.2.1)
  | 25 => some (specT sDy rDy fun x => g.neg x.1)
  | 24 => some (specT sDD rDy fun x => g.plus x.1 x.2.1)
  | _ => none
noncomputable def callDy (g : GDy) (R : Type) : CallE R := callsE Tryz.prog tt (specsDy g R) 20
/-! ### canonical -/
def digZ (m : L) (z : Int) : Int := H (BitVec.ofInt 32 ((m.getD (W (z.tdiv 32)).toNat 0).fdiv (2 ^ (min (z.tmod 32).toNat 32))) &&& BitVec.ofInt 32 1).toNat
def can0 : LoopT := ⟨0, [Sl.val 0 .bool, Sl.row 1 tU32, Sl.val 2 tI, Sl.box 6 (.dat tDy), Sl.val 7 tI], [Sl.val 0 .bool, Sl.row 1 tU32, Sl.val 2 tI, Sl.box 6 (.dat tDy), Sl.val 7 tI], []⟩
abbrev XCn := Bool × L × Int × Dy × Int × Unit
noncomputable def SCn (g : GDy) : XCn → Option (XCn ⊕ (XCn ⊕ Unit)) := stepT tt (callDy g) Tryz.f21.ntmps (hookT tt (callDy g) 100000 [can0] [] Tryz.f21.ntmps 4) 100000 can0 ((loopBody 0 ((Tryz.f21.body).getD .skip)).getD .skip)
def canS (b : Bool) (m : L) (e : Int) (q : Dy) (z : Int) : Option (XCn ⊕ (XCn ⊕ Unit)) :=
  bif inRange (W (z.tdiv 32)) m.length then bif decide (z.tmod 32 < 0) then none else bif digZ m z == 0 then some (.inl (b, m, e, q, W (z + 1), ())) else some (.inr (.inl (b, m, e, q, z, ()))) else none
theorem SCn_eq (g : GDy) (b : Bool) (m : L) (e : Int) (q : Dy) (z : Int) : SCn g (b, m, e, q, z, ()) = canS b m e q z := by kernel_rfl
noncomputable def canF (g : GDy) (S : XCn → Option (XCn ⊕ (XCn ⊕ Unit))) (b : Bool) (m : L) (e : Int) : ODy := nx (g.norm m) fun m _ => bif (m.length : Int) == 0 then some (dyZ, ()) else match lim S (b, m, e, dyZ, 0, ()) with
  | none => none
  | some (.inl y) => nx (g.shr y.2.1 y.2.2.2.2.1) fun r _ => some ((y.1, r, W (y.2.2.1 + y.2.2.2.2.1)), ())
  | some (.inr _) => none
theorem e21_eq (g : GDy) (b : Bool) (m : L) (e : Int) : evalT Tryz.prog tt (callDy g) [can0] [] 21 sCan rDy (b, m, e, ()) = canF g (SCn g) b m e := by kernel_rfl
/-! ### out, in, two -/
def outF (g : GDy) (x : Dy) : ODyI := nx (g.bits x.2.1) fun b _ => bif decide (b ≤ 8192) then (bif decide (x.2.2 ≥ -8192) then (bif !(decide (x.2.2 ≤ 8192)) then some (dyZ, 4, ()) else some (x, 0, ())) else some (dyZ, 4, ())) else some (dyZ, 4, ())
theorem e22_eq (g : GDy) (x : Dy) : evalT Tryz.prog tt (callDy g) [] [] 22 sDy rDyI (x, ()) = outF g x := by kernel_rfl
def in0 : LoopT := ⟨0, [Sl.box 1 (.dat tDy), Sl.box 2 (.dat tDy), Sl.val 4 tI, Sl.val 5 tI], [Sl.box 1 (.dat tDy), Sl.box 2 (.dat tDy), Sl.val 4 tI, Sl.val 5 tI], []⟩
abbrev XIn := Dy × Dy × Int × Int × Unit
noncomputable def SIn (g : GDy) : XIn → Option (XIn ⊕ (XIn ⊕ Unit)) := stepT tt (callDy g) Tryz.f34.ntmps (hookT tt (callDy g) 100000 [in0] [] Tryz.f34.ntmps 4) 100000 in0 ((loopBody 0 ((Tryz.f34.body).getD .skip)).getD .skip)
def inS (a q : Dy) (b z : Int) : Option (XIn ⊕ (XIn ⊕ Unit)) :=
  bif inRange (W (z.tdiv 32)) a.2.1.length then bif decide (z.tmod 32 < 0) then none else bif digZ a.2.1 z == 0 then some (.inl (a, q, b, W (z + 1), ())) else some (.inr (.inl (a, q, b, z, ()))) else none
theorem SIn_eq (g : GDy) (a q : Dy) (b z : Int) : SIn g (a, q, b, z, ()) = inS a q b z := by kernel_rfl
def badD (e : Int) : ODyI := some (dyZ, e, ())
noncomputable def inF (g : GDy) (S : XIn → Option (XIn ⊕ (XIn ⊕ Unit))) (a : Dy) : ODyI := nx (g.bits a.2.1) fun b _ => bif b == 0 then badD 0 else match lim S (a, dyZ, b, 0, ()) with
  | none => none
  | some (.inl y) => bif decide (W (y.2.2.1 - y.2.2.2.1) > 8192) then badD 4 else bif decide (y.1.2.2 > W (8192 - y.2.2.2.1)) then badD 4 else bif decide (y.1.2.2 < W (-8192 - y.2.2.2.1)) then badD 4 else
      nx (g.shr y.1.2.1 y.2.2.2.1) fun r _ => nx (g.can y.1.1 r (W (y.1.2.2 + y.2.2.2.1))) fun c _ => some (c, 0, ())
  | some (.inr _) => none
theorem e34_eq (g : GDy) (a : Dy) : evalT Tryz.prog tt (callDy g) [in0] [] 34 sDy rDyI (a, ()) = inF g (SIn g) a := by kernel_rfl
def twoF (g : GDy) (a b : Dy) : ODDI := nx (g.inn a) fun x e => bif e.1 == 0 then nx (g.inn b) fun y f => some (x, y, f.1, ()) else some (x, dyZ, e.1, ())
theorem e19_eq (g : GDy) (a b : Dy) : evalT Tryz.prog tt (callDy g) [] [] 19 sDD rDDI (a, b, ()) = twoF g a b := by kernel_rfl
/-! ### negated, plus -/
def negF (x : Dy) : ODy := bif !x.1 then some ((!((x.2.1.length : Int) == 0), x.2.1, x.2.2), ()) else some ((false, x.2.1, x.2.2), ())
theorem e25_eq (g : GDy) (x : Dy) : evalT Tryz.prog tt (callDy g) [] [] 25 sDy rDy (x, ()) = negF x := by kernel_rfl
def mnI (a b : Int) : Int := if b < a then b else a
def atF (g : GDy) {α : Type} (x : Dy) (e : Int) (k : L → Option α) : Option α := bif (x.2.1.length : Int) == 0 then k [] else nx (g.shl x.2.1 (W (x.2.2 - e))) fun r _ => k r
def plusF (g : GDy) (x y : Dy) : ODy := bif (x.2.1.length : Int) == 0 then some (y, ()) else bif (y.2.1.length : Int) == 0 then some (x, ()) else
  atF g x (mnI x.2.2 y.2.2) fun p => atF g y (mnI x.2.2 y.2.2) fun q => bif x.1 == y.1 then nx (g.add p q) fun s _ => nx (g.can x.1 s (mnI x.2.2 y.2.2)) fun c _ => some (c, ())
    else nx (g.cmp p q) fun c _ => bif decide (c < 0) then nx (g.sub q p) fun d _ => nx (g.can y.1 d (mnI x.2.2 y.2.2)) fun c _ => some (c, ()) else nx (g.sub p q) fun d _ => nx (g.can x.1 d (mnI x.2.2 y.2.2)) fun c _ => some (c, ())
theorem e24_eq (g : GDy) (x y : Dy) : evalT Tryz.prog tt (callDy g) [] [] 24 sDD rDy (x, y, ()) = plusF g x y := by kernel_rfl
/-! ### Neg, Add, Sub, Mul, Cmp, Distance, Canon, Of -/
def outK (g : GDy) (x : Dy) : ODyI := nx (g.out x) fun y e => some (y, e.1, ())
theorem e16_eq (g : GDy) (a : Dy) : evalT Tryz.prog tt (callDy g) [] [] 16 sDy rDyI (a, ()) = nx (g.inn a) fun x e => bif e.1 != 0 then badD e.1 else nx (g.neg x) fun x _ => outK g x := by kernel_rfl
theorem e26_eq (g : GDy) (a : Dy) : evalT Tryz.prog tt (callDy g) [] [] 26 sDy rDyI (a, ()) = nx (g.inn a) fun x e => bif e.1 != 0 then badD e.1 else outK g x := by kernel_rfl
theorem e29_eq (g : GDy) (a b : Dy) : evalT Tryz.prog tt (callDy g) [] [] 29 sDD rDyI (a, b, ()) = nx (g.two a b) fun x y => bif y.2.1 != 0 then badD y.2.1 else nx (g.plus x y.1) fun s _ => outK g s := by kernel_rfl
theorem e30_eq (g : GDy) (a b : Dy) : evalT Tryz.prog tt (callDy g) [] [] 30 sDD rDyI (a, b, ()) = nx (g.two a b) fun x y => bif y.2.1 != 0 then badD y.2.1 else nx (g.neg y.1) fun n _ => nx (g.plus x n) fun s _ => outK g s := by kernel_rfl
theorem e8_eq (g : GDy) (a b : Dy) : evalT Tryz.prog tt (callDy g) [] [] 8 sDD rDyI (a, b, ()) = nx (g.two a b) fun x y => bif y.2.1 != 0 then badD y.2.1 else nx (g.mul x.2.1 y.1.2.1) fun m _ => nx (g.can (!(x.1 == y.1.1)) m (W (x.2.2 + y.1.2.2))) fun c _ => outK g c := by kernel_rfl
theorem e12_eq (g : GDy) (a b : Dy) : evalT Tryz.prog tt (callDy g) [] [] 12 sDD [Sl.val 0 tI, Sl.val 1 tI] (a, b, ()) = nx (g.two a b) fun x y => bif y.2.1 != 0 then some (0, y.2.1, ()) else nx (g.neg y.1) fun n _ => nx (g.plus x n) fun s _ =>
    bif (s.2.1.length : Int) == 0 then some (0, 0, ()) else bif s.1 then some (-1, 0, ()) else some (1, 0, ()) := by kernel_rfl
theorem e10_eq (g : GDy) (a b : Dy) : evalT Tryz.prog tt (callDy g) [] [] 10 sDD rDyI (a, b, ()) = nx (g.two a b) fun x y => bif y.2.1 != 0 then badD y.2.1 else nx (g.neg y.1) fun n _ => nx (g.plus x n) fun s _ => outK g (false, s.2.1, s.2.2) := by kernel_rfl
/-! ### Round -/
def spR8 : TSh := [Sl.agg 0 tDy, Sl.val 1 tI, Sl.fn 2 32 .unit]
def bitR (m : L) (i : Int) (k : Bool → ODyI) : ODyI := bif decide (W (i.tdiv 32) < (m.length : Int)) then (bif inRange (W (i.tdiv 32)) m.length then bif decide (i.tmod 32 < 0) then none else k (digZ m i == 1) else none) else k false
def rndF (g : GDy) (a : Dy) (k : Int) : ODyI :=
  let bad : ODyI := some (dyZ, 2, ())
  bif decide (k < -8192) then bad else bif decide (k > 8192) then bad else nx (g.inn a) fun x e => bif e.1 != 0 then badD e.1 else
    bif decide (W (W (0 - k) - x.2.2) ≤ 0) then outK g x else bif (x.2.1.length : Int) == 0 then outK g x else
    nx (g.shr x.2.1 (W (W (0 - k) - x.2.2))) fun q _ => bitR x.2.1 (W (W (W (0 - k) - x.2.2) - 1)) fun up =>
      let fin (q : L) : ODyI := nx (g.can x.1 q (W (0 - k))) fun c _ => outK g c
      bif up then nx (g.ofn 1) fun o _ => nx (g.add q o) fun q _ => fin q else fin q
theorem e31_eq (g : GDy) (a : Dy) (k : Int) : evalO Tryz.prog tt (callDy g) [] [] 31 [Sl.agg 0 tDy, Sl.val 1 tI, Sl.fn 2 32 .unit] rDyI (a, k, (), ()) = rndF g a k := by kernel_rfl
end Go.Pv.Dn
/-! ### Dyadic numbers: what the program's functions compute. -/
namespace Go.Pv.Dn
open Go.Proofs Go.Pv.Nn Go.Nv
set_option maxRecDepth 1000000
set_option exponentiation.threshold 20000
/-! ### The record, built up -/
@[reducible] noncomputable def mkG (can : Bool → L → Int → ODy) (out inn : Dy → ODyI) (two : Dy → Dy → ODDI) (neg : Dy → ODy) (plus : Dy → Dy → ODy) : GDy :=
  ⟨bitsD, normD, ofD, shrDn, shlDn, addDn, subDn, mulDn, cmpDn, can, out, inn, two, neg, plus⟩
theorem okDy {can : Bool → L → Int → ODy} {out inn : Dy → ODyI} {two : Dy → Dy → ODDI} {neg : Dy → ODy} {plus : Dy → Dy → ODy}
    (h1 : FnT Tryz.prog 21 sCan rDy fun x => can x.1 x.2.1 x.2.2.1) (h2 : FnT Tryz.prog 22 sDy rDyI fun x => out x.1) (h3 : FnT Tryz.prog 34 sDy rDyI fun x => inn x.1) (h4 : FnT Tryz.prog 19 sDD rDDI fun x => two x.1 x.2.1)
    (h5 : FnT Tryz.prog 25 sDy rDy fun x => neg x.1) (h6 : FnT Tryz.prog 24 sDD rDy fun x => plus x.1 x.2.1) (R : Type) : CallsOK Tryz.prog (callDy (mkG can out inn two neg plus) R) := callsE_ok tt_ok mixed names (fun fn s hs => by
  unfold specsDy at hs
  split at hs
  · cases hs; exact specT_ok fnBits (cntN 38 (by kernel_rfl))
  · cases hs; exact specT_ok fnNorm (cntN 40 (by kernel_rfl))
  · cases hs; exact specT_ok fnOf (cntN 27 (by kernel_rfl))
  · cases hs; exact specT_ok fnShr (cntN 41 (by kernel_rfl))
  · cases hs; exact specT_ok fnShl (cntN 58 (by kernel_rfl))
  · cases hs; exact specT_ok fnAdd (cntN 45 (by kernel_rfl))
  · cases hs; exact specT_ok fnSub (cntN 47 (by kernel_rfl))
  · cases hs; exact specT_ok fnMul (cntN 20 (by kernel_rfl))
  · cases hs; exact specT_ok fnCmp (cntN 46 (by kernel_rfl))
  · cases hs; exact specT_ok h1 (cntN 21 (by kernel_rfl))
  · cases hs; exact specT_ok h2 (cntN 22 (by kernel_rfl))
  · cases hs; exact specT_ok h3 (cntN 34 (by kernel_rfl))
  · cases hs; exact specT_ok h4 (cntN 19 (by kernel_rfl))
  · cases hs; exact specT_ok h5 (cntN 25 (by kernel_rfl))
  · cases hs; exact specT_ok h6 (cntN 24 (by kernel_rfl))
  · cases hs) 20
noncomputable def g0 : GDy := mkG (fun _ _ _ => none) (fun _ => none) (fun _ => none) (fun _ _ => none) (fun _ => none) (fun _ _ => none)
theorem ok0 (R : Type) : CallsOK Tryz.prog (callDy g0 R) := okDy fnNone fnNone fnNone fnNone fnNone fnNone R
noncomputable def canD (b : Bool) (m : L) (e : Int) : ODy := canF g0 (SCn g0) b m e
theorem fnCan : FnT Tryz.prog 21 sCan rDy fun x => canD x.1 x.2.1 x.2.2.1 := mkT fun x y h => by
  obtain ⟨b, m, e, ⟨⟩⟩ := x
  exact ⟨_, ok0, _, _, (e21_eq g0 b m e).trans h⟩
noncomputable def outD (x : Dy) : ODyI := outF g0 x
theorem fnOut : FnT Tryz.prog 22 sDy rDyI fun x => outD x.1 := mkT fun x y h => by
  obtain ⟨a, ⟨⟩⟩ := x
  exact ⟨_, ok0, _, _, (e22_eq g0 a).trans h⟩
theorem fnNeg0 : FnT Tryz.prog 25 sDy rDy fun x => negF x.1 := mkT fun x y h => by
  obtain ⟨a, ⟨⟩⟩ := x
  exact ⟨_, ok0, _, _, (e25_eq g0 a).trans h⟩
noncomputable def g1 : GDy := mkG canD outD (fun _ => none) (fun _ _ => none) negF (fun _ _ => none)
theorem ok1 (R : Type) : CallsOK Tryz.prog (callDy g1 R) := okDy fnCan fnOut fnNone fnNone fnNeg0 fnNone R
noncomputable def innD (a : Dy) : ODyI := inF g1 (SIn g1) a
theorem fnIn : FnT Tryz.prog 34 sDy rDyI fun x => innD x.1 := mkT fun x y h => by
  obtain ⟨a, ⟨⟩⟩ := x
  exact ⟨_, ok1, _, _, (e34_eq g1 a).trans h⟩
noncomputable def plusDn (x y : Dy) : ODy := plusF g1 x y
theorem fnPlus : FnT Tryz.prog 24 sDD rDy fun x => plusDn x.1 x.2.1 := mkT fun x y h => by
  obtain ⟨a, b, ⟨⟩⟩ := x
  exact ⟨_, ok1, _, _, (e24_eq g1 a b).trans h⟩
noncomputable def g2 : GDy := mkG canD outD innD (fun _ _ => none) negF plusDn
theorem ok2 (R : Type) : CallsOK Tryz.prog (callDy g2 R) := okDy fnCan fnOut fnIn fnNone fnNeg0 fnPlus R
noncomputable def twoD (a b : Dy) : ODDI := twoF g2 a b
theorem fnTwo : FnT Tryz.prog 19 sDD rDDI fun x => twoD x.1 x.2.1 := mkT fun x y h => by
  obtain ⟨a, b, ⟨⟩⟩ := x
  exact ⟨_, ok2, _, _, (e19_eq g2 a b).trans h⟩
noncomputable def g3 : GDy := mkG canD outD innD twoD negF plusDn
theorem ok3 (R : Type) : CallsOK Tryz.prog (callDy g3 R) := okDy fnCan fnOut fnIn fnTwo fnNeg0 fnPlus R
/-! ### Digits -/
theorem dig_mod (X : Int) (h0 : 0 ≤ X) (h1 : X < 4294967296) : H (BitVec.ofInt 32 X &&& BitVec.ofInt 32 1).toNat = X % 2 := by
  obtain ⟨n, rfl⟩ := Int.eq_ofNat_of_zero_le h0
  have e1 : (BitVec.ofInt 32 (n : Int) &&& BitVec.ofInt 32 1).toNat = n % 2 := by
    rw [BitVec.toNat_and, BitVec.toNat_ofInt, BitVec.toNat_ofInt]
    have q : (2 : Nat) ^ 32 = 4294967296 := by decide
    have q1 : ((n : Int) % ((2 ^ 32 : Nat) : Int)).toNat = n := by rw [q]; omega
    have q2 : ((1 : Int) % ((2 ^ 32 : Nat) : Int)).toNat = 1 := by rw [q]; rfl
    rw [q1, q2, Nat.and_one_is_mod]
  rw [e1, H_mod]; omega
theorem digZ_ok (n z : Nat) (hz : z ≤ 1000000) : digZ (lb n) (z : Int) = ((n / 2 ^ z % 2 : Nat) : Int) := by
  unfold digZ
  have e1 : W ((z : Int).tdiv 32) = ((z / 32 : Nat) : Int) := by rw [Int.tdiv_eq_ediv_of_nonneg (by omega), W_small (by omega) (by omega)]; omega
  have e2 : ((z : Int).tmod 32) = ((z % 32 : Nat) : Int) := by rw [Int.tmod_eq_emod_of_nonneg (by omega)]; omega
  have e3 : min (((z % 32 : Nat) : Int)).toNat 32 = z % 32 := by rw [Int.toNat_natCast]; omega
  have hg := limb_getD (limb_lb n) (z / 32)
  rw [e1, e2, e3, Int.toNat_natCast, p32, Int.fdiv_eq_ediv_of_nonneg _ (Int.natCast_nonneg _)]
  have hp : (0 : Int) < ((2 ^ (z % 32) : Nat) : Int) := by have := Nat.two_pow_pos (z % 32); omega
  have h0 : 0 ≤ (lb n).getD (z / 32) 0 / ((2 ^ (z % 32) : Nat) : Int) := Int.ediv_nonneg hg.1 (by omega)
  have h1 : (lb n).getD (z / 32) 0 / ((2 ^ (z % 32) : Nat) : Int) ≤ (lb n).getD (z / 32) 0 := Int.ediv_le_self _ hg.1
  rw [dig_mod _ h0 (by omega), ← p32, lb_dig]
theorem tz_lt {n k : Nat} (h : n ≠ 0) (hk : n < 2 ^ k) : tz n < k := by
  have h1 := (tz_dig n h).2.2
  have h2 : 0 < n / 2 ^ tz n := by
    rcases Nat.eq_zero_or_pos (n / 2 ^ tz n) with e | e
    · rw [e] at h1; simp at h1; omega
    · exact e
  have h3 : 2 ^ tz n ≤ n := by
    have := Nat.le_mul_of_pos_right (2 ^ tz n) h2
    rw [h1] at this; exact this
  exact (Nat.pow_lt_pow_iff_right (by decide)).1 (Nat.lt_of_le_of_lt h3 hk)
theorem div_ne {n z : Nat} (h : n ≠ 0) (hz : z ≤ tz n) : n / 2 ^ z ≠ 0 := by
  intro e
  have h1 := (tz_dig n h).2.1
  have h2 : n / 2 ^ tz n = n / 2 ^ z / 2 ^ (tz n - z) := by rw [Nat.div_div_eq_div_mul, ← Nat.pow_add]; congr 2; omega
  rw [h2, e] at h1; simp at h1
/-- the test of a digit -/
theorem dig_step {α : Type} {n z : Nat} (h : n ≠ 0) (hz : z ≤ tz n) (ht : tz n ≤ 100000) {a b : Option α} :
    (bif inRange (W ((z : Int).tdiv 32)) (lb n).length then bif decide ((z : Int).tmod 32 < 0) then none else bif digZ (lb n) (z : Int) == 0 then a else b else none) = if z < tz n then a else b := by
  have e1 : W ((z : Int).tdiv 32) = ((z / 32 : Nat) : Int) := by rw [Int.tdiv_eq_ediv_of_nonneg (by omega), W_small (by omega) (by omega)]; omega
  have e2 : ¬ (z : Int).tmod 32 < 0 := by rw [Int.tmod_eq_emod_of_nonneg (by omega)]; omega
  rw [e1, inRn (lb_in (div_ne h hz)), cond_true, decide_eq_false e2, cond_false, digZ_ok n z (by omega)]
  obtain ⟨t1, t2, _⟩ := tz_dig n h
  by_cases hlt : z < tz n
  · rw [t1 z hlt, if_pos hlt]; rfl
  · have e : z = tz n := by omega
    rw [if_neg hlt, e, t2]; rfl
theorem can_loop {g : GDy} {b : Bool} {n : Nat} {e : Int} {q : Dy} (h : n ≠ 0) (ht : tz n ≤ 100000) : ∀ (k z : Nat), z + k = tz n → lim (SCn g) (b, lb n, e, q, (z : Int), ()) = some (.inl (b, lb n, e, q, (tz n : Int), ()))
  | 0, z, hz => by
    refine lim_end ?_
    rw [SCn_eq]; unfold canS
    rw [dig_step h (by omega) ht, if_neg (by omega), show z = tz n by omega]
  | k + 1, z, hz => by
    have hs : SCn g (b, lb n, e, q, (z : Int), ()) = some (.inl (b, lb n, e, q, ((z + 1 : Nat) : Int), ())) := by
      rw [SCn_eq]; unfold canS
      rw [dig_step h (by omega) ht, if_pos (by omega), W_small (by omega) (by omega)]; rfl
    rw [lim_next hs]
    exact can_loop h ht k (z + 1) (by omega)
theorem in_loop {g : GDy} {neg : Bool} {n : Nat} {e : Int} {q : Dy} {b : Int} (h : n ≠ 0) (ht : tz n ≤ 100000) : ∀ (k z : Nat), z + k = tz n → lim (SIn g) ((neg, lb n, e), q, b, (z : Int), ()) = some (.inl ((neg, lb n, e), q, b, (tz n : Int), ()))
  | 0, z, hz => by
    refine lim_end ?_
    rw [SIn_eq]; unfold inS
    rw [dig_step h (by omega) ht, if_neg (by omega), show z = tz n by omega]
  | k + 1, z, hz => by
    have hs : SIn g ((neg, lb n, e), q, b, (z : Int), ()) = some (.inl ((neg, lb n, e), q, b, ((z + 1 : Nat) : Int), ())) := by
      rw [SIn_eq]; unfold inS
      rw [dig_step h (by omega) ht, if_pos (by omega), W_small (by omega) (by omega)]; rfl
    rw [lim_next hs]
    exact in_loop h ht k (z + 1) (by omega)
/-! ### canonical, out, in -/
theorem nx_ok {α β γ : Type} {a : α} {b : β} {k : α → β → Option γ} : nx (some (a, b)) k = k a b := rfl
def B96 : Nat := 79228162514264337593543950336
theorem b96 : B96 = 2 ^ 96 := by decide
theorem lb_len3 {n : Nat} (h : n < B96) : (lb n).length ≤ 3 := lb_len n 3 (by rw [b96] at h; exact h)
theorem canD_ok {b : Bool} {m : L} {e : Int} (hm : Limb m) (hl : m.length ≤ 1000) (hv : lval m < B96) (he : -100000 ≤ e ∧ e ≤ 100000) : canD b m e = some (dyN b (lval m) e, ()) := by
  unfold canD canF
  show nx (normD m) _ = _
  rw [normD_ok (by omega), nx_ok, ltrim_lb hm]
  generalize lval m = n at hv
  by_cases h0 : n = 0
  · subst h0
    rw [lb_zero, dyN_zero]; rfl
  · have hlen := lb_len3 hv
    have htz := tz_lt h0 (by rw [b96] at hv; exact hv)
    have hne : ¬ (lb n).length = 0 := fun e => lb_ne h0 (List.eq_nil_of_length_eq_zero e)
    rw [beq_eq_false_iff_ne.2 (show ((lb n).length : Int) ≠ 0 by omega), cond_false]
    have hlp := can_loop (g := g0) (b := b) (e := e) (q := dyZ) h0 (by omega) (tz n) 0 (Nat.zero_add _)
    have hlp' : lim (SCn g0) (b, lb n, e, dyZ, 0, ()) = _ := hlp
    rw [hlp']
    show nx (shrDn (lb n) (tz n : Int)) (fun r _ => some ((b, r, W (e + (tz n : Int))), ())) = _
    rw [shrDn_ok (limb_lb n) (by omega) (by omega), nx_ok, lval_lb, W_small (by omega) (by omega)]
    unfold dyN
    rw [if_neg h0]
/-- small -/
def Sm (v e : Int) : Prop := v.natAbs < B96 ∧ -2000 ≤ e ∧ e ≤ 2000
theorem odd_le (n : Nat) : odd n ≤ n := Nat.div_le_self _ _
theorem dyN_odd {neg : Bool} {n : Nat} {e : Int} (h : n ≠ 0) : dyN neg (odd n) (e + (tz n : Int)) = dyN neg n e := by
  rw [← dyN_shift, odd_eq h]
theorem sm_len {v e : Int} (h : Sm v e) : Limb (dyI v e).2.1 ∧ (dyI v e).2.1.length ≤ 3 ∧ lval (dyI v e).2.1 ≤ v.natAbs ∧ -2000 ≤ (dyI v e).2.2 ∧ (dyI v e).2.2 ≤ 2100 := by
  obtain ⟨h1, h2, h3⟩ := h
  by_cases hv : v = 0
  · subst hv; rw [dyI_zero]
    exact ⟨Limb.nil, Nat.zero_le _, Nat.zero_le _, by decide, by decide⟩
  · have nv : v.natAbs ≠ 0 := by omega
    have ho := odd_le v.natAbs
    have ht := tz_lt nv (by rw [b96] at h1; exact h1)
    rw [dyI_form hv]
    refine ⟨limb_lb _, lb_len3 (by omega), by simp only [lval_lb]; exact ho, by simp only; omega, by simp only; omega⟩
theorem outD_ok {v e : Int} (h : Sm v e) : outD (dyI v e) = some (dyI v e, 0, ()) := by
  obtain ⟨h1, h2, _, h4, h5⟩ := sm_len h
  unfold outD outF
  show nx (bitsD (dyI v e).2.1) _ = _
  have hb := bitsV_le h1
  have hl := ltrim_le (dyI v e).2.1
  rw [bitsD_ok h1 (by omega), nx_ok, decide_eq_true (show (bitsV (dyI v e).2.1 : Int) ≤ 8192 by omega), cond_true, decide_eq_true (show (dyI v e).2.2 ≥ -8192 by omega), cond_true, decide_eq_true (show (dyI v e).2.2 ≤ 8192 by omega)]; rfl
theorem innD_gen {neg : Bool} {n : Nat} {e : Int} (hn : n < B96) (he : -4000 ≤ e ∧ e ≤ 4000) : innD (neg, lb n, e) = some (dyN neg n e, 0, ()) := by
  unfold innD inF
  show nx (bitsD (lb n)) _ = _
  have hl := lb_len3 hn
  have hb := bitsV_le (limb_lb n)
  rw [ltrim_lb_self] at hb
  rw [bitsD_ok (limb_lb n) (by omega), nx_ok]
  by_cases h0 : n = 0
  · subst h0
    rw [show bitsV (lb 0) = 0 from (bitsV_zero (limb_lb 0)).2 (by rw [ltrim_lb_self, lb_zero]), dyN_zero]; rfl
  · have hbz : (bitsV (lb n) : Int) ≠ 0 := fun e => by
      have := (bitsV_zero (limb_lb n)).1 (by omega)
      rw [ltrim_lb_self] at this
      exact lb_ne h0 this
    have htz := tz_lt h0 (by rw [b96] at hn; exact hn)
    rw [beq_eq_false_iff_ne.2 hbz, cond_false]
    have hlp := in_loop (g := g1) (neg := neg) (e := e) (q := dyZ) (b := (bitsV (lb n) : Int)) h0 (by omega) (tz n) 0 (Nat.zero_add _)
    have hlp' : lim (SIn g1) ((neg, lb n, e), dyZ, (bitsV (lb n) : Int), 0, ()) = _ := hlp
    rw [hlp']
    show (bif decide (W ((bitsV (lb n) : Int) - (tz n : Int)) > 8192) then badD 4 else bif decide (e > W (8192 - (tz n : Int))) then badD 4 else bif decide (e < W (-8192 - (tz n : Int))) then badD 4 else
      nx (shrDn (lb n) (tz n : Int)) fun r _ => nx (canD neg r (W (e + (tz n : Int)))) fun c _ => some (c, 0, ())) = _
    rw [W_small (show -9000000000000000000 ≤ (bitsV (lb n) : Int) - (tz n : Int) by omega) (by omega), W_small (show -9000000000000000000 ≤ 8192 - (tz n : Int) by omega) (by omega), W_small (show -9000000000000000000 ≤ -8192 - (tz n : Int) by omega) (by omega), W_small (show -9000000000000000000 ≤ e + (tz n : Int) by omega) (by omega),
      decide_eq_false (show ¬ (bitsV (lb n) : Int) - (tz n : Int) > 8192 by omega), decide_eq_false (show ¬ e > 8192 - (tz n : Int) by omega), decide_eq_false (show ¬ e < -8192 - (tz n : Int) by omega), cond_false, cond_false, cond_false, shrDn_ok (limb_lb n) (by omega) (by omega), nx_ok, lval_lb]
    have ho := odd_le n
    have ho' : n / 2 ^ tz n ≤ n := ho
    rw [canD_ok (limb_lb _) (by have := lb_len3 (n := n / 2 ^ tz n) (by omega); omega) (by rw [lval_lb]; omega) ⟨by omega, by omega⟩, nx_ok, lval_lb]
    have := dyN_odd (neg := neg) (e := e) h0
    unfold odd at this
    rw [this]
theorem innD_ok {v e : Int} (h : Sm v e) : innD (dyI v e) = some (dyI v e, 0, ()) := by
  obtain ⟨h1, h2, h3⟩ := h
  by_cases hv : v = 0
  · subst hv
    rw [dyI_zero]
    have := innD_gen (neg := false) (n := 0) (e := 0) (by decide) ⟨by decide, by decide⟩
    rw [lb_zero, dyN_zero] at this
    exact this
  · have nv : v.natAbs ≠ 0 := by omega
    have ho := odd_le v.natAbs
    have ht := tz_lt nv (by rw [b96] at h1; exact h1)
    rw [dyI_form hv, innD_gen (by omega) ⟨by omega, by omega⟩, dyN_odd nv, ← dyI_form hv]; rfl
theorem twoD_ok {v e w f : Int} (h1 : Sm v e) (h2 : Sm w f) : twoD (dyI v e) (dyI w f) = some (dyI v e, dyI w f, 0, ()) := by
  unfold twoD twoF
  show nx (innD (dyI v e)) _ = _
  rw [innD_ok h1, nx_ok]
  show (bif ((0 : Int) == 0) then nx (innD (dyI w f)) _ else _) = _
  rw [innD_ok h2]; rfl
theorem negF_ok (v e : Int) : negF (dyI v e) = some (dyI (-v) e, ()) := by
  rw [← negD_ok]
  unfold negF negD
  cases (dyI v e).1 with
  | true => rfl
  | false =>
    show some ((!(((dyI v e).2.1.length : Int) == 0), (dyI v e).2.1, (dyI v e).2.2), ()) = some ((true && !((dyI v e).2.1.length == 0), (dyI v e).2.1, (dyI v e).2.2), ())
    have : (((dyI v e).2.1.length : Int) == 0) = ((dyI v e).2.1.length == 0) := by
      by_cases h : (dyI v e).2.1.length = 0
      · simp [h]
      · rw [beq_eq_false_iff_ne.2 h, beq_eq_false_iff_ne.2 (by omega)]
    rw [this, Bool.true_and]
/-! ### plus -/
theorem lb_mono {a b : Nat} (h : a ≤ b) : (lb a).length ≤ (lb b).length := by
  have h1 := lval_lt (limb_lb b)
  rw [lval_lb] at h1
  exact lb_len a _ (by omega)
theorem atF_ok {g : GDy} {α : Type} (hg : g.shl = shlDn) {v e m : Int} (h : Sm v e) (h1 : m ≤ (dyI v e).2.2) (h2 : -3000 ≤ m) (hv : v ≠ 0) (k : L → Option α) : atF g (dyI v e) m k = k (lb (alignD (dyI v e) m)) := by
  obtain ⟨q1, q2, _, q4, q5⟩ := sm_len h
  unfold atF
  have hne : ¬ (dyI v e).2.1.length = 0 := fun e' => hv (dyI_nil.1 (List.eq_nil_of_length_eq_zero e'))
  obtain ⟨n, hn⟩ := Int.eq_ofNat_of_zero_le (show 0 ≤ (dyI v e).2.2 - m by omega)
  rw [beq_eq_false_iff_ne.2 (show ((dyI v e).2.1.length : Int) ≠ 0 by omega), cond_false, hg, W_small (by omega) (by omega), hn, shlDn_ok q1 (by omega) (by omega), nx_ok]
  unfold alignD
  rw [hn, Int.toNat_natCast]
theorem lb_nat {n : Nat} (h : n < 2 ^ 9000) : (lb n).length ≤ 300 := lb_len n 300 (by rw [b32_pow]; exact Nat.lt_of_lt_of_le h (Nat.pow_le_pow_right (by decide) (by decide)))
theorem align_lt {v e m : Int} (h : Sm v e) (h2 : -3000 ≤ m) : alignD (dyI v e) m < 2 ^ 8000 := by
  obtain ⟨q1, q2, q3, q4, q5⟩ := sm_len h
  unfold alignD
  have h3 : lval (dyI v e).2.1 < 2 ^ 96 := by have := h.1; rw [b96] at this; omega
  have h4 : (2 : Nat) ^ ((dyI v e).2.2 - m).toNat ≤ 2 ^ 7000 := Nat.pow_le_pow_right (by decide) (by omega)
  have h5 := Nat.mul_lt_mul_of_lt_of_le h3 h4 (Nat.two_pow_pos 7000)
  rw [← Nat.pow_add] at h5
  exact Nat.lt_of_lt_of_le h5 (Nat.pow_le_pow_right (by decide) (by decide))
theorem bif_beq (a b : Bool) {α : Type} (x y : α) : (bif a == b then x else y) = if a = b then x else y := by
  cases a <;> cases b <;> rfl
theorem plus_gen {v e w f : Int} (h1 : Sm v e) (h2 : Sm w f) (hs : alignD (dyI v e) (min (dyI v e).2.2 (dyI w f).2.2) + alignD (dyI w f) (min (dyI v e).2.2 (dyI w f).2.2) < B96) : plusDn (dyI v e) (dyI w f) = some (plusD (dyI v e) (dyI w f), ()) := by
  unfold plusDn plusF plusD
  by_cases hv : v = 0
  · subst hv
    rw [dyI_zero, if_pos (show dyZ.2.1 = [] from rfl)]; rfl
  by_cases hw : w = 0
  · subst hw
    have hn : ¬ (dyI v e).2.1 = [] := fun h => hv (dyI_nil.1 h)
    have hl : ¬ (dyI v e).2.1.length = 0 := fun h => hn (List.eq_nil_of_length_eq_zero h)
    rw [if_neg hn, beq_eq_false_iff_ne.2 (show ((dyI v e).2.1.length : Int) ≠ 0 by omega), cond_false, dyI_zero, if_pos (show dyZ.2.1 = [] from rfl)]; rfl
  have hn : ¬ (dyI v e).2.1 = [] := fun h => hv (dyI_nil.1 h)
  have hl : ¬ (dyI v e).2.1.length = 0 := fun h => hn (List.eq_nil_of_length_eq_zero h)
  have hn' : ¬ (dyI w f).2.1 = [] := fun h => hw (dyI_nil.1 h)
  have hl' : ¬ (dyI w f).2.1.length = 0 := fun h => hn' (List.eq_nil_of_length_eq_zero h)
  obtain ⟨a1, a2, a3, a4, a5⟩ := sm_len h1
  obtain ⟨b1, b2, b3, b4, b5⟩ := sm_len h2
  rw [if_neg hn, if_neg hn', beq_eq_false_iff_ne.2 (show ((dyI v e).2.1.length : Int) ≠ 0 by omega), cond_false, beq_eq_false_iff_ne.2 (show ((dyI w f).2.1.length : Int) ≠ 0 by omega), cond_false]
  have em : mnI (dyI v e).2.2 (dyI w f).2.2 = min (dyI v e).2.2 (dyI w f).2.2 := by unfold mnI; split <;> omega
  rw [em]
  generalize hm : min (dyI v e).2.2 (dyI w f).2.2 = m at hs ⊢
  rw [atF_ok (g := g1) rfl h1 (by omega) (by omega) hv, atF_ok (g := g1) rfl h2 (by omega) (by omega) hw]
  generalize alignD (dyI v e) m = p at hs ⊢
  generalize alignD (dyI w f) m = q at hs ⊢
  have lp := lb_len3 (n := p) (by omega)
  have lq := lb_len3 (n := q) (by omega)
  rw [bif_beq]
  show (if (dyI v e).1 = (dyI w f).1 then nx (addDn (lb p) (lb q)) (fun s _ => nx (canD (dyI v e).1 s m) fun c _ => some (c, ())) else nx (cmpDn (lb p) (lb q)) fun c _ => bif decide (c < 0) then nx (subDn (lb q) (lb p)) (fun d _ => nx (canD (dyI w f).1 d m) fun c _ => some (c, ())) else nx (subDn (lb p) (lb q)) fun d _ => nx (canD (dyI v e).1 d m) fun c _ => some (c, ())) = _
  unfold plusN
  by_cases hsg : (dyI v e).1 = (dyI w f).1
  · rw [if_pos hsg, if_pos hsg, addDn_ok (limb_lb p) (limb_lb q) (by omega) (by omega), nx_ok, lval_lb, lval_lb]
    have l3 := lb_len3 (n := p + q) hs
    rw [canD_ok (limb_lb _) (by omega) (by rw [lval_lb]; exact hs) ⟨by omega, by omega⟩, nx_ok, lval_lb]
  · rw [if_neg hsg, if_neg hsg, cmpDn_ok (limb_lb p) (limb_lb q) (by omega) (by omega), nx_ok, lval_lb, lval_lb]
    unfold cmpN
    by_cases hlt : p < q
    · rw [if_pos hlt, if_pos hlt, decide_eq_true (show (-1 : Int) < 0 by decide), cond_true, subDn_ok (limb_lb q) (limb_lb p) (by omega) (lb_mono (by omega)) (by rw [lval_lb, lval_lb]; omega), nx_ok, lval_lb, lval_lb]
      have l3 := lb_len3 (n := q - p) (by omega)
      rw [canD_ok (limb_lb _) (by omega) (by rw [lval_lb]; omega) ⟨by omega, by omega⟩, nx_ok, lval_lb]
    · have hno : ¬ (if q < p then (1 : Int) else 0) < 0 := by split <;> decide
      rw [if_neg hlt, if_neg hlt, decide_eq_false hno, cond_false, subDn_ok (limb_lb p) (limb_lb q) (by omega) (lb_mono (by omega)) (by rw [lval_lb, lval_lb]; omega), nx_ok, lval_lb, lval_lb]
      have l3 := lb_len3 (n := p - q) (by omega)
      rw [canD_ok (limb_lb _) (by omega) (by rw [lval_lb]; omega) ⟨by omega, by omega⟩, nx_ok, lval_lb]
/-- the aligned numbers are no greater than at any common exponent -/
theorem align_le {v e m m1 : Int} (h1 : m ≤ e) (hm : m ≤ m1) (h2 : m1 ≤ (dyI v e).2.2) : alignD (dyI v e) m1 ≤ v.natAbs * 2 ^ (e - m).toNat := by
  by_cases hv : v = 0
  · subst hv; rw [dyI_zero]; unfold alignD dyZ; simp [lval]
  · have nv : v.natAbs ≠ 0 := by omega
    rw [dyI_form hv] at h2 ⊢
    unfold alignD
    simp only [lval_lb] at h2 ⊢
    have ho := odd_eq nv
    have e1 : v.natAbs * 2 ^ (e - m).toNat = odd v.natAbs * 2 ^ (tz v.natAbs + (e - m).toNat) := by rw [Nat.pow_add, ← Nat.mul_assoc, ho]
    rw [e1]
    exact Nat.mul_le_mul_left _ (Nat.pow_le_pow_right (by decide) (by omega))
theorem plusDn_ok {v e w f m : Int} (h1 : Sm v e) (h2 : Sm w f) (hm1 : m ≤ e) (hm2 : m ≤ f) (hs : v.natAbs * 2 ^ (e - m).toNat + w.natAbs * 2 ^ (f - m).toNat < B96) :
    plusDn (dyI v e) (dyI w f) = some (dyI (v * ((2 ^ (e - m).toNat : Nat) : Int) + w * ((2 ^ (f - m).toNat : Nat) : Int)) m, ()) := by
  rw [← plusD_ok hm1 hm2]
  by_cases hv : v = 0
  · subst hv
    unfold plusDn plusF plusD
    rw [dyI_zero, if_pos (show dyZ.2.1 = [] from rfl)]; rfl
  by_cases hw : w = 0
  · subst hw
    unfold plusDn plusF plusD
    have hn : ¬ (dyI v e).2.1 = [] := fun h => hv (dyI_nil.1 h)
    have hl : ¬ (dyI v e).2.1.length = 0 := fun h => hn (List.eq_nil_of_length_eq_zero h)
    rw [if_neg hn, beq_eq_false_iff_ne.2 (show ((dyI v e).2.1.length : Int) ≠ 0 by omega), cond_false, dyI_zero, if_pos (show dyZ.2.1 = [] from rfl)]; rfl
  refine plus_gen h1 h2 ?_
  have e1 : e ≤ (dyI v e).2.2 := by rw [dyI_form hv]; simp only; omega
  have e2 : f ≤ (dyI w f).2.2 := by rw [dyI_form hw]; simp only; omega
  have q1 := align_le (v := v) (e := e) (m := m) (m1 := min (dyI v e).2.2 (dyI w f).2.2) hm1 (by omega) (by omega)
  have q2 := align_le (v := w) (e := f) (m := m) (m1 := min (dyI v e).2.2 (dyI w f).2.2) hm2 (by omega) (by omega)
  omega
/-! ### The functions that are called -/
def outK3 {α : Type} (x : Dy) (k : Option α) : Option α := k
theorem outK_ok {v e : Int} (h : Sm v e) : outK g3 (dyI v e) = some (dyI v e, 0, ()) := by
  unfold outK
  show nx (outD (dyI v e)) _ = _
  rw [outD_ok h]; rfl
noncomputable def NegD (a : Dy) : ODyI := nx (g3.inn a) fun x e => bif e.1 != 0 then badD e.1 else nx (g3.neg x) fun x _ => outK g3 x
theorem fnNegD : FnT Tryz.prog 16 sDy rDyI fun x => NegD x.1 := mkT fun x y h => by
  obtain ⟨a, ⟨⟩⟩ := x
  exact ⟨_, ok3, _, _, (e16_eq g3 a).trans h⟩
noncomputable def CanonD (a : Dy) : ODyI := nx (g3.inn a) fun x e => bif e.1 != 0 then badD e.1 else outK g3 x
theorem fnCanonD : FnT Tryz.prog 26 sDy rDyI fun x => CanonD x.1 := mkT fun x y h => by
  obtain ⟨a, ⟨⟩⟩ := x
  exact ⟨_, ok3, _, _, (e26_eq g3 a).trans h⟩
noncomputable def AddD (a b : Dy) : ODyI := nx (g3.two a b) fun x y => bif y.2.1 != 0 then badD y.2.1 else nx (g3.plus x y.1) fun s _ => outK g3 s
theorem fnAddD : FnT Tryz.prog 29 sDD rDyI fun x => AddD x.1 x.2.1 := mkT fun x y h => by
  obtain ⟨a, b, ⟨⟩⟩ := x
  exact ⟨_, ok3, _, _, (e29_eq g3 a b).trans h⟩
noncomputable def SubD (a b : Dy) : ODyI := nx (g3.two a b) fun x y => bif y.2.1 != 0 then badD y.2.1 else nx (g3.neg y.1) fun n _ => nx (g3.plus x n) fun s _ => outK g3 s
theorem fnSubD : FnT Tryz.prog 30 sDD rDyI fun x => SubD x.1 x.2.1 := mkT fun x y h => by
  obtain ⟨a, b, ⟨⟩⟩ := x
  exact ⟨_, ok3, _, _, (e30_eq g3 a b).trans h⟩
noncomputable def MulD (a b : Dy) : ODyI := nx (g3.two a b) fun x y => bif y.2.1 != 0 then badD y.2.1 else nx (g3.mul x.2.1 y.1.2.1) fun m _ => nx (g3.can (!(x.1 == y.1.1)) m (W (x.2.2 + y.1.2.2))) fun c _ => outK g3 c
theorem fnMulD : FnT Tryz.prog 8 sDD rDyI fun x => MulD x.1 x.2.1 := mkT fun x y h => by
  obtain ⟨a, b, ⟨⟩⟩ := x
  exact ⟨_, ok3, _, _, (e8_eq g3 a b).trans h⟩
noncomputable def CmpD (a b : Dy) : Option (Int × Int × Unit) := nx (g3.two a b) fun x y => bif y.2.1 != 0 then some (0, y.2.1, ()) else nx (g3.neg y.1) fun n _ => nx (g3.plus x n) fun s _ =>
    bif (s.2.1.length : Int) == 0 then some (0, 0, ()) else bif s.1 then some (-1, 0, ()) else some (1, 0, ())
theorem fnCmpD : FnT Tryz.prog 12 sDD [Sl.val 0 tI, Sl.val 1 tI] fun x => CmpD x.1 x.2.1 := mkT fun x y h => by
  obtain ⟨a, b, ⟨⟩⟩ := x
  exact ⟨_, ok3, _, _, (e12_eq g3 a b).trans h⟩
noncomputable def DistD (a b : Dy) : ODyI := nx (g3.two a b) fun x y => bif y.2.1 != 0 then badD y.2.1 else nx (g3.neg y.1) fun n _ => nx (g3.plus x n) fun s _ => outK g3 (false, s.2.1, s.2.2)
theorem fnDistD : FnT Tryz.prog 10 sDD rDyI fun x => DistD x.1 x.2.1 := mkT fun x y h => by
  obtain ⟨a, b, ⟨⟩⟩ := x
  exact ⟨_, ok3, _, _, (e10_eq g3 a b).trans h⟩
theorem fnRnd : FnO Tryz.prog 31 [Sl.agg 0 tDy, Sl.val 1 tI, Sl.fn 2 32 .unit] rDyI fun x => rndF g3 x.1 x.2.1 := evalO_ok tt_ok mixed names fun x y h => by
  obtain ⟨a, k, ⟨⟩, ⟨⟩⟩ := x
  exact ⟨_, _, _, ok3, (e31_eq g3 a k).trans h⟩
theorem z0 {α : Type} {a b : α} : (bif ((0 : Int) != 0) then a else b) = b := rfl
theorem NegD_ok {v e : Int} (h : Sm v e) : NegD (dyI v e) = some (dyI (-v) e, 0, ()) := by
  unfold NegD
  show nx (innD (dyI v e)) _ = _
  rw [innD_ok h, nx_ok]
  show (bif ((0 : Int) != 0) then badD 0 else nx (negF (dyI v e)) fun x _ => outK g3 x) = _
  rw [z0, negF_ok, nx_ok, outK_ok (v := -v) (e := e) ⟨by rw [Int.natAbs_neg]; exact h.1, h.2⟩]
theorem AddD_ok {v e w f m : Int} (h1 : Sm v e) (h2 : Sm w f) (hm1 : m ≤ e) (hm2 : m ≤ f) (hs : v.natAbs * 2 ^ (e - m).toNat + w.natAbs * 2 ^ (f - m).toNat < B96)
    (h3 : Sm (v * ((2 ^ (e - m).toNat : Nat) : Int) + w * ((2 ^ (f - m).toNat : Nat) : Int)) m) : AddD (dyI v e) (dyI w f) = some (dyI (v * ((2 ^ (e - m).toNat : Nat) : Int) + w * ((2 ^ (f - m).toNat : Nat) : Int)) m, 0, ()) := by
  unfold AddD
  show nx (twoD (dyI v e) (dyI w f)) _ = _
  rw [twoD_ok h1 h2, nx_ok]
  show (bif ((0 : Int) != 0) then badD 0 else nx (plusDn (dyI v e) (dyI w f)) fun s _ => outK g3 s) = _
  rw [z0, plusDn_ok h1 h2 hm1 hm2 hs, nx_ok, outK_ok h3]
theorem diff_ok {v e w f m : Int} (h1 : Sm v e) (h2 : Sm w f) (hm1 : m ≤ e) (hm2 : m ≤ f) (hs : v.natAbs * 2 ^ (e - m).toNat + w.natAbs * 2 ^ (f - m).toNat < B96) {α : Type} (k : Dy → Option α) :
    (nx (g3.neg (dyI w f)) fun n _ => nx (g3.plus (dyI v e) n) fun s _ => k s) = k (dyI (v * ((2 ^ (e - m).toNat : Nat) : Int) + -w * ((2 ^ (f - m).toNat : Nat) : Int)) m) := by
  show (nx (negF (dyI w f)) fun n _ => nx (plusDn (dyI v e) n) fun s _ => k s) = _
  rw [negF_ok, nx_ok, plusDn_ok h1 (w := -w) ⟨by rw [Int.natAbs_neg]; exact h2.1, h2.2⟩ hm1 hm2 (by rw [Int.natAbs_neg]; exact hs), nx_ok]
theorem SubD_ok {v e w f m : Int} (h1 : Sm v e) (h2 : Sm w f) (hm1 : m ≤ e) (hm2 : m ≤ f) (hs : v.natAbs * 2 ^ (e - m).toNat + w.natAbs * 2 ^ (f - m).toNat < B96)
    (h3 : Sm (v * ((2 ^ (e - m).toNat : Nat) : Int) + -w * ((2 ^ (f - m).toNat : Nat) : Int)) m) : SubD (dyI v e) (dyI w f) = some (dyI (v * ((2 ^ (e - m).toNat : Nat) : Int) + -w * ((2 ^ (f - m).toNat : Nat) : Int)) m, 0, ()) := by
  unfold SubD
  show nx (twoD (dyI v e) (dyI w f)) _ = _
  rw [twoD_ok h1 h2, nx_ok]
  exact (diff_ok h1 h2 hm1 hm2 hs (fun s => outK g3 s)).trans (outK_ok h3)
theorem CmpD_ok {v e w f m : Int} (h1 : Sm v e) (h2 : Sm w f) (hm1 : m ≤ e) (hm2 : m ≤ f) (hs : v.natAbs * 2 ^ (e - m).toNat + w.natAbs * 2 ^ (f - m).toNat < B96) : CmpD (dyI v e) (dyI w f) = some (cmpD (plusD (dyI v e) (negD (dyI w f))), 0, ()) := by
  rw [negD_ok, plusD_ok hm1 hm2]
  unfold CmpD
  show nx (twoD (dyI v e) (dyI w f)) _ = _
  rw [twoD_ok h1 h2, nx_ok]
  refine (diff_ok h1 h2 hm1 hm2 hs (fun s => bif (s.2.1.length : Int) == 0 then some (0, 0, ()) else bif s.1 then some (-1, 0, ()) else some (1, 0, ()))).trans ?_
  generalize dyI (v * ((2 ^ (e - m).toNat : Nat) : Int) + -w * ((2 ^ (f - m).toNat : Nat) : Int)) m = s
  unfold cmpD
  by_cases h0 : s.2.1.length = 0
  · rw [if_pos h0, show ((s.2.1.length : Int) == 0) = true by simp [h0]]; rfl
  · rw [if_neg h0, beq_eq_false_iff_ne.2 (show (s.2.1.length : Int) ≠ 0 by omega), cond_false]
    cases s.1 <;> rfl
theorem DistD_ok {v e w f m : Int} (h1 : Sm v e) (h2 : Sm w f) (hm1 : m ≤ e) (hm2 : m ≤ f) (hs : v.natAbs * 2 ^ (e - m).toNat + w.natAbs * 2 ^ (f - m).toNat < B96)
    (h3 : Sm (v * ((2 ^ (e - m).toNat : Nat) : Int) + -w * ((2 ^ (f - m).toNat : Nat) : Int)) m) :
    DistD (dyI v e) (dyI w f) = some (dyI ((v * ((2 ^ (e - m).toNat : Nat) : Int) + -w * ((2 ^ (f - m).toNat : Nat) : Int)).natAbs : Int) m, 0, ()) := by
  unfold DistD
  show nx (twoD (dyI v e) (dyI w f)) _ = _
  rw [twoD_ok h1 h2, nx_ok]
  refine (diff_ok h1 h2 hm1 hm2 hs (fun s => outK g3 (false, s.2.1, s.2.2))).trans ?_
  show outK g3 (false, (dyI _ m).2.1, (dyI _ m).2.2) = _
  rw [absD_ok, outK_ok ⟨by rw [Int.natAbs_natCast]; exact h3.1, h3.2⟩]
theorem MulD_ok {v e w f : Int} (h1 : Sm v e) (h2 : Sm w f) (l1 : v.natAbs < 4294967296) (l2 : w.natAbs < 4294967296) (he : -2000 ≤ e + f ∧ e + f ≤ 2000) : MulD (dyI v e) (dyI w f) = some (dyI (v * w) (e + f), 0, ()) := by
  obtain ⟨a1, a2, a3, a4, a5⟩ := sm_len h1
  obtain ⟨b1, b2, b3, b4, b5⟩ := sm_len h2
  have hvw : (v * w).natAbs < B96 := by
    rw [Int.natAbs_mul]
    have h := Nat.mul_le_mul (show v.natAbs ≤ 4294967295 by omega) (show w.natAbs ≤ 4294967295 by omega)
    unfold B96; omega
  have hsm : Sm (v * w) (e + f) := ⟨hvw, he.1, he.2⟩
  rw [← mulD_ok]
  unfold MulD
  show nx (twoD (dyI v e) (dyI w f)) _ = _
  rw [twoD_ok h1 h2, nx_ok]
  show (nx (mulDn (dyI v e).2.1 (dyI w f).2.1) fun m _ => nx (canD (!((dyI v e).1 == (dyI w f).1)) m (W ((dyI v e).2.2 + (dyI w f).2.2))) fun c _ => outK g3 c) = _
  rw [W_small (by omega) (by omega)]
  have hmul : mulDn (dyI v e).2.1 (dyI w f).2.1 = some (lb (lval (dyI v e).2.1 * lval (dyI w f).2.1), 0, ()) := by
    by_cases hv : v = 0
    · subst hv
      rw [mulDn_nil a1 b1 (by omega) (by omega) (.inl (by rw [dyI_zero]; rfl)), dyI_zero]
      show _ = some (lb (0 * _), 0, ())
      rw [Nat.zero_mul, lb_zero]
    · by_cases hw : w = 0
      · subst hw
        rw [mulDn_nil a1 b1 (by omega) (by omega) (.inr (by rw [dyI_zero]; rfl)), dyI_zero]
        show _ = some (lb (_ * 0), 0, ())
        rw [Nat.mul_zero, lb_zero]
      · have nv : v.natAbs ≠ 0 := by omega
        have nw : w.natAbs ≠ 0 := by omega
        have o1 := odd_le v.natAbs
        have o2 := odd_le w.natAbs
        rw [dyI_form hv, dyI_form hw]
        simp only [lval_lb]
        exact mulDn_one (odd_ne nv) (odd_ne nw) (by omega) (by omega)
  have hlt : lval (dyI v e).2.1 * lval (dyI w f).2.1 < B96 := by
    have h := Nat.mul_le_mul (show lval (dyI v e).2.1 ≤ 4294967295 by omega) (show lval (dyI w f).2.1 ≤ 4294967295 by omega)
    unfold B96; omega
  have hl3 := lb_len3 hlt
  rw [hmul, nx_ok, canD_ok (limb_lb _) (by omega) (by rw [lval_lb]; exact hlt) ⟨by omega, by omega⟩, nx_ok, lval_lb]
  have e1 : dyN (!((dyI v e).1 == (dyI w f).1)) (lval (dyI v e).2.1 * lval (dyI w f).2.1) ((dyI v e).2.2 + (dyI w f).2.2) = mulD (dyI v e) (dyI w f) := rfl
  rw [e1, mulD_ok, outK_ok hsm]
end Go.Pv.Dn
/-! ### The law InterpScalars, run with what is known of its callees. -/
namespace Go.Pv
open Go.Proofs
set_option maxRecDepth 1000000
@[reducible] def tD : Ty := .pair tW tW
@[reducible] def sDD : Sig := [.agg tD, .agg tD]
abbrev Db := Int × Int
structure GN where
  canon : Db → Db
  add : Db → Db → Db × Bool
  sub : Db → Db → Db × Bool
  mul : Db → Db → Db
  div : Db → Db → Db × Bool
def specsN (g : GN) (R : Type) (f : FuncId) : Option (List V → Mem → Nat → (Eff → Option R) → Option R) :=
  match f with
  | 50 => some (specE sDec rDec FDecC)
  | 51 => some (specD sOp [.agg tForm] (fun x => kn x.1) fun x => (formOf x.1, ()))
  | 81 => some (specD [.agg tD] [.agg tD] (fun _ => true) fun x => (g.canon x.1, ()))
  | 87 => some (specD sDD [.agg tD, .val .bool] (fun _ => true) fun x => ((g.add x.1 x.2.1).1, (g.add x.1 x.2.1).2, ()))
  | 88 => some (specD sDD [.agg tD, .val .bool] (fun _ => true) fun x => ((g.sub x.1 x.2.1).1, (g.sub x.1 x.2.1).2, ()))
  | 92 => some (specD sDD [.agg tD] (fun _ => true) fun x => (g.mul x.1 x.2.1, ()))
  | 102 => some (specD sDD [.agg tD, .val .bool] (fun _ => true) fun x => ((g.div x.1 x.2.1).1, (g.div x.1 x.2.1).2, ()))
  | _ => none
noncomputable def callNum (g : GN) (R : Type) : CallE R := callsE Tryz.prog tt (specsN g R) 30
@[reducible] def sScal : Sig := [.agg tD, .agg tD, .val (.int .u8)]
noncomputable abbrev e5 (g : GN) (p a : Db) (w : Int) : Option (Bool × Unit) := evalT Tryz.prog tt (callNum g) [] [⟨4, 7, [10, 11, 12, 13]⟩] 5 sScal [Sl.val 0 .bool] (p, a, w, ())
/-- a word of memory -/
def mw (x : Int) : Int := IntKind.u16.wrap (BitVec.ofInt IntKind.u16.bits x &&& BitVec.ofInt IntKind.u16.bits 32767).toNat
def md (p : Db) : Db := (mw p.1, mw p.2)
def fin5 (g : GN) (d w : Db × Bool) : Option (Bool × Unit) :=
  bif (g.canon (g.canon d.1)).1 == w.1.1 then bif (g.canon (g.canon d.1)).2 == w.1.2 then bif d.2 == w.2 then some (true, ()) else some (false, ()) else some (false, ()) else some (false, ())
def arg1 (g : GN) (p : Db) : Db := g.canon (g.canon (g.canon (md p)))
def arg2 (g : GN) (a : Db) : Db := g.canon (g.canon (md a))
end Go.Pv
/-! ### The law InterpVectors, run with what is known of its callees. -/
namespace Go.Pv
open Go.Proofs
set_option maxRecDepth 1000000
@[reducible] def tVec : Ty := .pair tD (.pair tD tD)
abbrev Vc := Db × Db × Db
@[reducible] def sVV : Sig := [.agg tVec, .agg tVec]
structure GW where
  canon : Db → Db
  add : Vc → Vc → Vc × Bool
  sub : Vc → Vc → Vc × Bool
  cross : Vc → Vc → Vc × Bool
  dot : Vc → Vc → Db × Bool
def specsW (g : GW) (R : Type) (f : FuncId) : Option (List V → Mem → Nat → (Eff → Option R) → Option R) :=
  match f with
  | 50 => some (specE sDec rDec FDecC)
  | 51 => some (specD sOp [.agg tForm] (fun x => kn x.1) fun x => (formOf x.1, ()))
  | 81 => some (specD [.agg tD] [.agg tD] (fun _ => true) fun x => (g.canon x.1, ()))
  | 69 => some (specD sVV [.agg tVec, .val .bool] (fun _ => true) fun x => ((g.add x.1 x.2.1).1, (g.add x.1 x.2.1).2, ()))
  | 70 => some (specD sVV [.agg tVec, .val .bool] (fun _ => true) fun x => ((g.sub x.1 x.2.1).1, (g.sub x.1 x.2.1).2, ()))
  | 72 => some (specD sVV [.agg tVec, .val .bool] (fun _ => true) fun x => ((g.cross x.1 x.2.1).1, (g.cross x.1 x.2.1).2, ()))
  | 99 => some (specD sVV [.agg tD, .val .bool] (fun _ => true) fun x => ((g.dot x.1 x.2.1).1, (g.dot x.1 x.2.1).2, ()))
  | _ => none
noncomputable def callVec (g : GW) (R : Type) : CallE R := callsE Tryz.prog tt (specsW g R) 30
@[reducible] def sVecs : Sig := [.agg tVec, .agg tVec, .val (.int .u8)]
noncomputable abbrev e6 (g : GW) (p a : Vc) (w : Int) : Option (Bool × Unit) := evalT Tryz.prog tt (callVec g) [] [] 6 sVecs [Sl.val 0 .bool] (p, a, w, ())
def map3 (f : Db → Db) (p : Vc) : Vc := (f p.1, f p.2.1, f p.2.2)
def argV1 (g : GW) (p : Vc) : Vc := map3 g.canon (map3 g.canon (map3 g.canon (map3 md p)))
def argV2 (g : GW) (p : Vc) : Vc := map3 g.canon (map3 g.canon (map3 md p))
def eqDb (a b : Db) : Bool := a.1 == b.1 && (a.2 == b.2 && true)
def eqVc (a b : Vc) : Bool := eqDb a.1 b.1 && (eqDb a.2.1 b.2.1 && (eqDb a.2.2 b.2.2 && true))
abbrev RBo := Option (Bool × Unit)
def tailV (b : Bool) (st w : Vc) : RBo :=
  bif b then (bif (st.1.1 == w.1.1) then bif (st.1.2 == w.1.2) then some (st.2.1.1 == 0, ()) else some (false, ()) else some (false, ()))
  else bif (st.1.1 != w.1.1) then some (false, ()) else bif (st.1.2 != w.1.2) then some (false, ())
  else bif (st.2.1.1 != w.2.1.1) then some (false, ()) else bif (st.2.1.2 != w.2.1.2) then some (false, ())
  else bif (st.2.2.1 != w.2.2.1) then some (false, ()) else bif (st.2.2.2 != w.2.2.2) then some (false, ()) else some (true, ())
def finV (b : Bool) (acc st : Vc) (over : Bool) (w : Vc) (out : Bool) : RBo :=
  bif (over != out) then some (false, ()) else bif (!(eqVc acc w)) then some (false, ()) else tailV b st w
def vecV (g : GW) (b : Bool) (d w : Vc × Bool) : RBo := finV b (map3 g.canon d.1) (map3 g.canon (map3 g.canon d.1)) d.2 w.1 w.2
def dotV (g : GW) (b : Bool) (d w : Db × Bool) : RBo := finV b (g.canon d.1, (0, 0), (0, 0)) (g.canon (g.canon d.1), (0, 0), (0, 0)) d.2 (w.1, (0, 0), (0, 0)) w.2
end Go.Pv
/-! ### Doubles: what the functions of layers 15 and 16 that the law needs compute. -/
namespace Go.Pv
open Go.Proofs
set_option maxRecDepth 1000000
/-! ### The two at the bottom -/
noncomputable def callNo (R : Type) : CallE R := callsE Tryz.prog tt (fun _ => none) 20
theorem callNo_ok (R : Type) : CallsOK Tryz.prog (callNo R) := callsE_ok tt_ok mixed names (fun _ _ h => by cases h) 20
noncomputable abbrev e47 (p : Db) := evalF Tryz.prog tt callNo [] 82 [.agg tD] [.val tI] (p, ())
noncomputable abbrev e53 (v : Int) := evalF Tryz.prog tt callNo [] 108 [.val tI] [.agg tD] (v, ())
def wordK (x : Int) (k : Int → Option (Int × Unit)) : Option (Int × Unit) := bif decide (w64 (mw x) ≥ 16384) then k (w64 (w64 (mw x) - 32767)) else k (w64 (mw x))
theorem e47_eq (x y : Int) : e47 (x, y) = wordK x fun u => wordK y fun v => some (w64 (w64 (u * 16384) + v), ()) := by kernel_rfl
def lo14 (m : Int) : Int := IntKind.u16.wrap (IntKind.u64.wrap (BitVec.ofInt IntKind.u64.bits m &&& BitVec.ofInt IntKind.u64.bits 16383).toNat)
def sh14 (m : Int) : Int := m.fdiv (2 ^ min (Int.toNat 14) IntKind.u64.bits)
def dMag (v : Int) : Int := bif decide (v < 0) then IntKind.u64.wrap (0 - IntKind.u64.wrap v) else IntKind.u64.wrap v
def dig (v m : Int) : Int := bif decide (v < 0) then IntKind.u16.wrap (32767 - lo14 m) else lo14 m
theorem e53_eq (v : Int) : e53 v = bif decide (v < 0) then
      (bif decide (v < 0) then bif decide (v < 0) then some ((IntKind.u16.wrap (32767 - lo14 (sh14 (IntKind.u64.wrap (0 - IntKind.u64.wrap v)))), IntKind.u16.wrap (32767 - lo14 (IntKind.u64.wrap (0 - IntKind.u64.wrap v)))), ())
          else some ((lo14 (sh14 (IntKind.u64.wrap (0 - IntKind.u64.wrap v))), IntKind.u16.wrap (32767 - lo14 (IntKind.u64.wrap (0 - IntKind.u64.wrap v)))), ())
        else bif decide (v < 0) then some ((IntKind.u16.wrap (32767 - lo14 (sh14 (IntKind.u64.wrap (0 - IntKind.u64.wrap v)))), lo14 (IntKind.u64.wrap (0 - IntKind.u64.wrap v))), ())
          else some ((lo14 (sh14 (IntKind.u64.wrap (0 - IntKind.u64.wrap v))), lo14 (IntKind.u64.wrap (0 - IntKind.u64.wrap v))), ()))
    else (bif decide (v < 0) then bif decide (v < 0) then some ((IntKind.u16.wrap (32767 - lo14 (sh14 (IntKind.u64.wrap v))), IntKind.u16.wrap (32767 - lo14 (IntKind.u64.wrap v))), ())
          else some ((lo14 (sh14 (IntKind.u64.wrap v)), IntKind.u16.wrap (32767 - lo14 (IntKind.u64.wrap v))), ())
        else bif decide (v < 0) then some ((IntKind.u16.wrap (32767 - lo14 (sh14 (IntKind.u64.wrap v))), lo14 (IntKind.u64.wrap v)), ())
          else some ((lo14 (sh14 (IntKind.u64.wrap v)), lo14 (IntKind.u64.wrap v)), ())) := by kernel_rfl
def wv (x : Int) : Int := bif decide (w64 (mw x) ≥ 16384) then w64 (w64 (mw x) - 32767) else w64 (mw x)
def Vd (p : Db) : Int := w64 (w64 (wv p.1 * 16384) + wv p.2)
def Dd (v : Int) : Db := (dig v (sh14 (dMag v)), dig v (dMag v))
theorem eval47 (p : Db) : e47 p = some (Vd p, ()) := by
  obtain ⟨x, y⟩ := p
  rw [e47_eq]
  unfold wordK Vd wv
  cases decide (w64 (mw x) ≥ 16384) <;> cases decide (w64 (mw y) ≥ 16384) <;> rfl
theorem eval53 (v : Int) : e53 v = some (Dd v, ()) := by
  rw [e53_eq]
  unfold Dd dig dMag
  cases decide (v < 0) <;> rfl

/-! ### What rests on them -/
structure GV where
  V : Db → Int
  D : Int → Db
  Q : Int → Int → Int
  dQ : Int → Int → Bool
@[reducible] def sII : Sig := [.val tI, .val tI]
def specsNV (g : GV) (R : Type) (f : FuncId) : Option (List V → Mem → Nat → (Eff → Option R) → Option R) :=
  match f with
  | 82 => some (specD [.agg tD] [.val tI] (fun _ => true) fun x => (g.V x.1, ()))
  | 108 => some (specD [.val tI] [.agg tD] (fun _ => true) fun x => (g.D x.1, ()))
  | 111 => some (specD sII [.val tI] (fun x => g.dQ x.1 x.2.1) fun x => (g.Q x.1 x.2.1, ()))
  | _ => none
noncomputable def callV' (g : GV) (R : Type) : CallE R := callsE Tryz.prog tt (specsNV g R) 20
def clampK {α : Type} (v : Int) (k : Int → Bool → Option α) : Option α := bif decide (v > 268435455) then k 268435455 true else bif decide (v < -268435455) then k (-268435455) true else k v false
def onlyN {α : Type} (b : Bool) (o : Option α) : Option α := bif b then o else none
theorem e30_eq (g : GV) (p : Db) : evalF Tryz.prog tt (callV' g) [] 81 [.agg tD] [.agg tD] (p, ()) = some (g.D (g.V p), ()) := by kernel_rfl
theorem e21_eq (g : GV) (p a : Db) : evalF Tryz.prog tt (callV' g) [] 87 sDD [.agg tD, .val .bool] (p, a, ()) = clampK (w64 (g.V p + g.V a)) fun v o => some (g.D v, o, ()) := by kernel_rfl
theorem e22_eq (g : GV) (p a : Db) : evalF Tryz.prog tt (callV' g) [] 88 sDD [.agg tD, .val .bool] (p, a, ()) = clampK (w64 (g.V p - g.V a)) fun v o => some (g.D v, o, ()) := by kernel_rfl
theorem e23_eq (g : GV) (p a : Db) : evalF Tryz.prog tt (callV' g) [] 92 sDD [.agg tD] (p, a, ()) = onlyN (g.dQ (w64 (g.V p * g.V a)) 268435456) (clampK (g.Q (w64 (g.V p * g.V a)) 268435456) fun v _ => some (g.D v, ())) := by kernel_rfl
abbrev RD2 := Option (Db × Bool × Unit)
def divR (g : GV) (v : Int) : RD2 := bif v == 0 then some ((0, 0), true, ()) else bif decide (v < 0) then some (g.D (-268435455), true, ()) else some (g.D 268435455, true, ())
def divB (g : GV) (v w : Int) : RD2 := bif decide (v < w) then bif decide (w64 (0 - v) < w) then onlyN (g.dQ (w64 (v * 268435456)) w) (clampK (g.Q (w64 (v * 268435456)) w) fun c _ => some (g.D c, false, ())) else divR g v else divR g v
theorem e24_eq (g : GV) (p a : Db) : evalF Tryz.prog tt (callV' g) [] 102 sDD [.agg tD, .val .bool] (p, a, ()) =
    bif decide (g.V a < 0) then divB g (w64 (0 - g.V p)) (w64 (0 - g.V a)) else divB g (g.V p) (g.V a) := by kernel_rfl

/-! ### The quotient -/
def specsQ (dq : Int → Int → Bool) (q : Int → Int → Int) (R : Type) (f : FuncId) : Option (List V → Mem → Nat → (Eff → Option R) → Option R) :=
  match f with
  | 111 => some (specD sII [.val tI] (fun x => dq x.1 x.2.1) fun x => (q x.1 x.2.1, ()))
  | _ => none
noncomputable def callQ (dq : Int → Int → Bool) (q : Int → Int → Int) (R : Type) : CallE R := callsE Tryz.prog tt (specsQ dq q R) 20
def q0 (p q : Int) : Int := bif decide (p.tmod q ≥ w64 (q - p.tmod q)) then w64 (w64 (p.tdiv q) + 1) else w64 (p.tdiv q)
def q0K (p q : Int) : Option (Int × Unit) := bif decide (q = 0) then none else bif decide (q = 0) then none else bif decide (p.tmod q ≥ w64 (q - p.tmod q)) then some (w64 (w64 (p.tdiv q) + 1), ()) else some (w64 (p.tdiv q), ())
theorem e49_eq (dq : Int → Int → Bool) (f : Int → Int → Int) (p q : Int) : evalF Tryz.prog tt (callQ dq f) [] 111 sII [.val tI] (p, q, ()) =
    bif decide (p < 0) then onlyN (dq (w64 (0 - p)) q) (some (w64 (0 - f (w64 (0 - p)) q), ())) else q0K p q := by kernel_rfl
end Go.Pv
