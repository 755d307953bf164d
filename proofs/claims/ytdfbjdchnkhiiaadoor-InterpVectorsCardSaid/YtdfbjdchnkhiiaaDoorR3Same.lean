/-
  SameWords: a list is the same as itself.
-/
import Derived.Test.YtdfbjdchnkhiiaaDoorR3Base
namespace Go.Pv
open Go.Proofs
set_option maxRecDepth 1000000
def loop14 : LoopSpec := ⟨0, [(0, .val (.slice tW)), (1, .val (.slice tW)), (5, .val tI)], [], [(4, .val .bool)]⟩
noncomputable def code14 : Code := (Tryd.f14.body).getD .skip
noncomputable def body14 : Code := (loopBody 0 code14).getD .skip
noncomputable def S14 : List Int × List Int × Int × Unit → Option ((List Int × List Int × Int × Unit) ⊕ (Unit ⊕ (Bool × Unit))) := stepE tt call0 Tryd.f14.ntmps (loopHook tt call0 Tryd.f14.ntmps 100000 [loop14] 4) 100000 loop14 body14
noncomputable abbrev e14 (x : List Int × List Int × Unit) : Option (Bool × Unit) := evalF Tryd.prog tt call0 [loop14] 14 [.val (.slice tW), .val (.slice tW)] [.val .bool] x
theorem S14_eq (l1 l2 : List Int) (i : Int) : S14 (l1, l2, i, ()) = bif decide (i < (l1.length : Int)) then bif inRange i l1.length then bif inRange i l2.length then
    bif l1.getD i.toNat 0 != l2.getD i.toNat 0 then some (.inr (.inr (false, ()))) else some (.inl (l1, l2, IntKind.i64.wrap (i + 1), ()))
    else none else none else some (.inr (.inl ())) := by kernel_rfl
theorem e14_eq (l1 l2 : List Int) : e14 (l1, l2, ()) = bif (l1.length : Int) != (l2.length : Int) then some (false, ()) else
    match lim S14 (l1, l2, 0, ()) with
    | none => none
    | some (.inl _) => some (true, ())
    | some (.inr y) => some (y.1, ()) := by kernel_rfl

theorem small_wrap {k : Int} (h1 : 0 ≤ k) (h2 : k ≤ 9000000000000000000) : IntKind.i64.wrap k = k := by
  unfold IntKind.wrap IntKind.bits IntKind.signed
  simp only [Bool.true_and]
  have e : (2 : Int) ^ 64 = 18446744073709551616 := by decide
  have e2 : (2 : Int) ^ (64 - 1) = 9223372036854775808 := by decide
  rw [e, e2]
  have : ¬ (k % 18446744073709551616 ≥ 9223372036854775808) := by omega
  simp only [decide_eq_true_eq, this, if_false]
  omega

theorem same_loop (l : List Int) (hl : l.length ≤ 1000000000) : ∀ (n i : Nat), i + n = l.length → lim S14 (l, l, (i : Int), ()) = some (.inl ())
  | 0, i, h => by
    refine lim_end ?_
    rw [S14_eq]
    have : decide ((i : Int) < (l.length : Int)) = false := decide_eq_false (by omega)
    rw [this, cond_false]
  | n + 1, i, h => by
    have hs : S14 (l, l, (i : Int), ()) = some (.inl (l, l, ((i + 1 : Nat) : Int), ())) := by
      rw [S14_eq]
      have h1 : decide ((i : Int) < (l.length : Int)) = true := decide_eq_true (by omega)
      have h2 : inRange (i : Int) l.length = true := by simp [inRange]; omega
      rw [h1, h2, small_wrap (by omega) (by omega)]
      simp
    rw [lim_next hs]
    exact same_loop l hl n (i + 1) (by omega)

theorem same_self (l : List Int) (hl : l.length ≤ 1000000000) : e14 (l, l, ()) = some (true, ()) := by
  rw [e14_eq]
  have h := same_loop l hl l.length 0 (by omega)
  have : ((0 : Nat) : Int) = 0 := rfl
  rw [this] at h
  rw [h]
  simp

theorem fn14 : FnOK Tryd.prog 14 [.val (.slice tW), .val (.slice tW)] [.val .bool] e14 := fnOK call0_ok fun _ _ h => h
end Go.Pv
