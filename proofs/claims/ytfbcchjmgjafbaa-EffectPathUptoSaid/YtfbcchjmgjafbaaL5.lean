/-
  The ground of the proof, part 5: The reference's state computes the plain effect: pop, modes, step, Of. Safe, Check, Same, live: what they compute; the laws EffectTells and EffectLists return true. Segments: within, number, has, next, region, unit: as the code says it. each, Unit, Work and the reference's Unit, Work: as the code says it. each, Unit, Work by themselves: as the code says it. The laws EffectUnit and EffectPath: as the code says it. A program of segments, on plain data: its check, its work. within, number, has, next, region, unit: what they compute. each, Unit and the reference's Unit: what they compute. Work, the reference's Unit and Work: what they compute. The reference's Work: what it computes. The laws EffectUnit and EffectPath return true.
-/
import Derived.Test.YtfbcchjmgjafbaaL4
/-! ### The reference's state computes the plain effect: pop, modes, step, Of. -/
namespace Go.Pv
open Go.Proofs
set_option maxRecDepth 1000000
def Same5 (z x : RSt) : Prop := z = x
def F54 (x : RSt) (m : Int) : OR :=
    bif m == 0 then retR x 0 else bif (x.2.1.length : Int) == 0 then retR x 14 else
    bif inRange (w64 ((x.2.1.length : Int) - 1)) x.2.1.length then bif x.2.1.getD (w64 ((x.2.1.length : Int) - 1)).toNat 0 != m then retR x 6 else
      bif decide (0 ≤ w64 ((x.2.1.length : Int) - 1)) && decide (w64 ((x.2.1.length : Int) - 1) ≤ (x.2.1.length : Int)) then retR (x.1, cut x.2.1 0 (some (w64 ((x.2.1.length : Int) - 1)).toNat), x.2.2) 0 else none
    else none
theorem fn54 : FnP Try.prog 57 trSt [.val tU8] rE fun x y => F54 x y.1 := evalP_ok tt_ok mixed names fun x y z h => by
  obtain ⟨m, ⟨⟩⟩ := y
  exact ⟨_, _, _, call0_ok, (e54_eq x m).trans h⟩
theorem F54_eq {x : RSt} {m : Int} (hl : x.2.1.length ≤ 1000) : F54 x m = retR (x.1, (Nv.popE x.2.1 m).1, x.2.2) (Nv.popE x.2.1 m).2 := by
  unfold F54 Nv.popE
  rw [bif_eq]
  by_cases m0 : m = 0
  · rw [if_pos m0, if_pos m0]
  rw [if_neg m0, if_neg m0]
  by_cases l0 : x.2.1.length = 0
  · rw [if_pos l0, show ((x.2.1.length : Int) == 0) = true by simp [l0], cond_true]
  rw [if_neg l0, beq_eq_false_iff_ne.2 (show (x.2.1.length : Int) ≠ 0 by omega), cond_false]
  have e1 : w64 ((x.2.1.length : Int) - 1) = ((x.2.1.length - 1 : Nat) : Int) := by rw [w64_small (by omega) (by omega)]; omega
  rw [e1, inR (by omega), cond_true, Int.toNat_natCast]
  by_cases hd : x.2.1.getD (x.2.1.length - 1) 0 = m
  · rw [show (x.2.1.getD (x.2.1.length - 1) 0 != m) = false by rw [hd]; simp, cond_false, if_neg (fun h => h hd),
      show (decide (0 ≤ ((x.2.1.length - 1 : Nat) : Int)) && decide (((x.2.1.length - 1 : Nat) : Int) ≤ (x.2.1.length : Int))) = true by simp, cond_true]
    simp only [cut, List.drop_zero]
  · rw [show (x.2.1.getD (x.2.1.length - 1) 0 != m) = true by simpa using hd, cond_true, if_pos hd]
def gS : GS := ⟨Nv.form, F54⟩
theorem okS (R : Type) : CallsOK Try.prog (callS gS R) := callsE_ok tt_ok mixed names (fun fn s hs => by
  unfold specsS at hs
  split at hs
  · cases hs; exact specD_ok k29 flat_form (cntN 56 (by kernel_rfl))
  · cases hs; exact specP_ok fn54 (cntN 57 (by kernel_rfl))
  · cases hs) 20
theorem endR_eq (f : Nv.Form) (i : Ins) (x : RSt) : endR f i x = if i.1 = 33 ∨ i.1 = 34 ∨ i.1 = 35 then outsR f x true else outsR f x false := by
  unfold endR
  rw [bif_eq, bif_eq]
  by_cases h1 : i.1 = 33
  · rw [if_pos h1, if_pos (.inl h1)]
  rw [if_neg h1]
  by_cases h2 : i.1 = 34
  · rw [if_pos h2, if_pos (.inr (.inl h2))]
  rw [if_neg h2]
  by_cases h3 : i.1 = 35
  · rw [if_pos (.inr (.inr h3)), show (i.1 == 35) = true by simpa using h3]
  · have hno : ¬ (i.1 = 33 ∨ i.1 = 34 ∨ i.1 = 35) := by omega
    rw [if_neg hno, beq_eq_false_iff_ne.2 h3]
theorem setMR_eq (f : Nv.Form) (x : RSt) : setMR f x = retR ((if f.2.2.2.1 ≠ 0 then f.2.2.2.1 else x.1), x.2) 0 := by
  unfold setMR
  by_cases h : f.2.2.2.1 = 0
  · rw [show (f.2.2.2.1 != 0) = false by simp [h], cond_false, if_neg (fun h' => h' h)]
  · rw [show (f.2.2.2.1 != 0) = true by simpa using h, cond_true, if_pos h]
theorem endR_ok {f : Nv.Form} {i : Ins} {x : RSt} (hf : Nv.form i.1 = f) (ho : 0 ≤ x.2.2.2.2.2.1 ∧ x.2.2.2.2.2.1 ≤ 8) : Ans Same5 (endR f i x) (Nv.finE i x) := by
  rw [endR_eq]
  unfold Nv.finE
  by_cases h : i.1 = 33 ∨ i.1 = 34 ∨ i.1 = 35
  · rw [if_pos h, if_pos h]
    unfold outsR
    rw [cond_true, bif_eq]
    by_cases h2 : x.2.2.2.2.2.1 = 8
    · rw [if_pos h2, if_pos (by omega)]; exact Ans.err (by omega)
    · have hno : ¬ x.2.2.2.2.2.1 ≥ 8 := by omega
      rw [if_neg h2, if_neg hno, setMR_eq, w64_small (by omega) (by omega)]
      refine Ans.ok ?_
      unfold Same5 Nv.outM setO; rw [hf]
  · rw [if_neg h, if_neg h]
    unfold outsR
    rw [cond_false, setMR_eq]
    refine Ans.ok ?_
    unfold Same5 Nv.outM; rw [hf]
theorem dbl_loop {x : RSt} {i : Ins} {f : Nv.Form} (hl : x.2.1.length ≤ 1000) : ∀ (n k : Nat) (s : Int), k + n = x.2.1.length → 0 ≤ s → s + 3 * (n : Int) ≤ 100000 → lim (S420 gS) (x, i, f, s, (k : Int), ()) = some (.inl (x, i, f, s + Nv.need (x.2.1.drop k), ()))
  | 0, k, s, h, _, _ => by
    refine lim_end ?_
    rw [S420_eq, decide_eq_false (show ¬ (k : Int) < (x.2.1.length : Int) by omega), cond_false, List.drop_eq_nil_of_le (by omega)]
    simp [Nv.need]
  | n + 1, k, s, h, h0, h1 => by
    have gs := Nv.size_ge (x.2.1.getD k 0)
    have hs : S420 gS (x, i, f, s, (k : Int), ()) = some (.inl (x, i, f, s + Nv.size (x.2.1.getD k 0), ((k + 1 : Nat) : Int), ())) := by
      rw [S420_eq, decide_eq_true (show (k : Int) < (x.2.1.length : Int) by omega), inR (by omega), cond_true, cond_true, szQ_eq, Int.toNat_natCast, w64_small (by omega) (by omega), w64_small (by omega) (by omega)]; rfl
    rw [lim_next hs, dbl_loop hl n (k + 1) _ (by omega) (by omega) (by omega), drop_cons (show k < x.2.1.length by omega)]
    simp only [Nv.need, Int.add_assoc]
theorem pushR_ok {f : Nv.Form} {i : Ins} {x : RSt} (hf : Nv.form i.1 = f) (ho : 0 ≤ x.2.2.2.2.2.1 ∧ x.2.2.2.2.2.1 ≤ 8) (hn : Nv.need x.2.1 ≤ 18) :
    Ans Same5 (pushR gS f i x) (if i.1 = 7 then (if Nv.need x.2.1 + Nv.size x.1 > 18 then (Nv.est0, 13) else Nv.finE i (x.1, x.2.1 ++ [x.1], x.2.2)) else Nv.finE i x) := by
  have gn := Nv.need_ge x.2.1
  have gs := Nv.size_ge x.1
  unfold pushR
  rw [bif_eq]
  by_cases h7 : i.1 = 7
  · rw [if_pos h7, if_pos h7, szQ_eq]
    have hl := dbl_loop (x := x) (i := i) (f := f) (by omega) x.2.1.length 0 (Nv.size x.1) (by omega) (by omega) (by omega)
    rw [List.drop_zero] at hl
    have hl' : lim (S420 gS) (x, i, f, Nv.size x.1, 0, ()) = _ := hl
    rw [hl']
    simp only
    by_cases hb : Nv.need x.2.1 + Nv.size x.1 > 18
    · rw [decide_eq_true (show Nv.size x.1 + Nv.need x.2.1 > 18 by omega), cond_true, if_pos hb]; exact Ans.err (by omega)
    · have hno : ¬ Nv.size x.1 + Nv.need x.2.1 > 18 := by omega
      rw [decide_eq_false hno, cond_false, if_neg hb, app_ok (by rw [List.length_append]; simp only [List.length_cons, List.length_nil]; omega)]
      exact endR_ok hf ho
  · rw [if_neg h7, if_neg h7]
    exact endR_ok hf ho
theorem popR_ok {x : RSt} {m : Int} {k : RSt → OR} {r : Nv.ESt × Int} (hl : x.2.1.length ≤ 1000) (h : (Nv.popE x.2.1 m).2 = 0 → Ans Same5 (k (x.1, (Nv.popE x.2.1 m).1, x.2.2)) r) :
    Ans Same5 (popR (gS.pop x m) k) (if (Nv.popE x.2.1 m).2 ≠ 0 then (Nv.est0, (Nv.popE x.2.1 m).2) else r) := by
  have e : gS.pop x m = retR (x.1, (Nv.popE x.2.1 m).1, x.2.2) (Nv.popE x.2.1 m).2 := F54_eq hl
  rw [e]
  show Ans Same5 (bif (Nv.popE x.2.1 m).2 != 0 then retR _ (Nv.popE x.2.1 m).2 else k (x.1, (Nv.popE x.2.1 m).1, x.2.2)) _
  by_cases h0 : (Nv.popE x.2.1 m).2 = 0
  · rw [show ((Nv.popE x.2.1 m).2 != 0) = false by simp [h0], cond_false, if_neg (fun h' => h' h0)]; exact h h0
  · rw [show ((Nv.popE x.2.1 m).2 != 0) = true by simpa using h0, cond_true, if_pos h0]; exact Ans.err h0
theorem modesR_ok {i : Ins} {x : RSt} {c : Nat} (h1 : 1 ≤ i.1) (h2 : i.1 ≤ 38) (hx : Nv.Good c x) : Ans Same5 (modesR gS (Nv.form i.1) i x) (Nv.modesE i x) := by
  unfold modesR onlyQ
  rw [kn_iff.2 ⟨h1, h2⟩, cond_true]
  unfold Nv.modesE
  generalize hf : Nv.form i.1 = f
  have hlen := hx.len
  have nx := hx.list
  have l1 := Nv.popE_len x.2.1 f.2.1
  have n1 := Nv.popE_need (l := x.2.1) (m := f.2.1)
  have n2 := Nv.popE_need (l := (Nv.popE x.2.1 f.2.1).1) (m := f.2.2.1)
  have key : Ans Same5 (bodyR gS f i x) (if (Nv.popE x.2.1 f.2.1).2 ≠ 0 then (Nv.est0, (Nv.popE x.2.1 f.2.1).2) else
      if (Nv.popE (Nv.popE x.2.1 f.2.1).1 f.2.2.1).2 ≠ 0 then (Nv.est0, (Nv.popE (Nv.popE x.2.1 f.2.1).1 f.2.2.1).2) else
      if i.1 = 7 then (if Nv.need (Nv.popE (Nv.popE x.2.1 f.2.1).1 f.2.2.1).1 + Nv.size x.1 > 18 then (Nv.est0, 13) else Nv.finE i (x.1, (Nv.popE (Nv.popE x.2.1 f.2.1).1 f.2.2.1).1 ++ [x.1], x.2.2))
      else Nv.finE i (x.1, (Nv.popE (Nv.popE x.2.1 f.2.1).1 f.2.2.1).1, x.2.2)) := by
    unfold bodyR
    refine popR_ok (by omega) fun _ => ?_
    refine popR_ok (x := (x.1, (Nv.popE x.2.1 f.2.1).1, x.2.2)) (by simp only; omega) fun _ => ?_
    exact pushR_ok (x := (x.1, (Nv.popE (Nv.popE x.2.1 f.2.1).1 f.2.2.1).1, x.2.2)) hf hx.outs (by simp only; omega)
  have hpush : Ans Same5 (pchkR gS f i x) (if i.1 = 7 ∧ x.1 = 0 then (Nv.est0, 6) else (if (Nv.popE x.2.1 f.2.1).2 ≠ 0 then (Nv.est0, (Nv.popE x.2.1 f.2.1).2) else
      if (Nv.popE (Nv.popE x.2.1 f.2.1).1 f.2.2.1).2 ≠ 0 then (Nv.est0, (Nv.popE (Nv.popE x.2.1 f.2.1).1 f.2.2.1).2) else
      if i.1 = 7 then (if Nv.need (Nv.popE (Nv.popE x.2.1 f.2.1).1 f.2.2.1).1 + Nv.size x.1 > 18 then (Nv.est0, 13) else Nv.finE i (x.1, (Nv.popE (Nv.popE x.2.1 f.2.1).1 f.2.2.1).1 ++ [x.1], x.2.2))
      else Nv.finE i (x.1, (Nv.popE (Nv.popE x.2.1 f.2.1).1 f.2.2.1).1, x.2.2))) := by
    unfold pchkR
    rw [bif_eq, bif_eq]
    by_cases h7 : i.1 = 7
    · by_cases h0 : x.1 = 0
      · rw [if_pos h7, if_pos h0, if_pos ⟨h7, h0⟩]; exact Ans.err (by omega)
      · have hno : ¬ (i.1 = 7 ∧ x.1 = 0) := fun h => h0 h.2
        rw [if_pos h7, if_neg h0, if_neg hno]; exact key
    · have hno : ¬ (i.1 = 7 ∧ x.1 = 0) := fun h => h7 h.1
      rw [if_neg h7, if_neg hno]; exact key
  by_cases hin : f.1 = 0
  · rw [show (f.1 != 0) = false by simp [hin], cond_false]
    by_cases h7 : i.1 = 7 ∧ x.1 = 0
    · rw [if_pos h7] at hpush
      rw [if_pos (.inr h7)]; exact hpush
    · rw [if_neg h7] at hpush
      have hno : ¬ ((f.1 ≠ 0 ∧ f.1 ≠ x.1) ∨ (i.1 = 7 ∧ x.1 = 0)) := fun h => h.elim (fun h => h.1 hin) h7
      rw [if_neg hno]; exact hpush
  · rw [show (f.1 != 0) = true by simpa using hin, cond_true]
    by_cases hm : f.1 = x.1
    · rw [show (f.1 != x.1) = false by simp [hm], cond_false]
      by_cases h7 : i.1 = 7 ∧ x.1 = 0
      · rw [if_pos h7] at hpush
        rw [if_pos (.inr h7)]; exact hpush
      · rw [if_neg h7] at hpush
        have hno : ¬ ((f.1 ≠ 0 ∧ f.1 ≠ x.1) ∨ (i.1 = 7 ∧ x.1 = 0)) := fun h => h.elim (fun h => h.2 hm) h7
        rw [if_neg hno]; exact hpush
    · rw [show (f.1 != x.1) = true by simpa using hm, cond_true, if_pos (.inl ⟨hin, hm⟩)]; exact Ans.err (by omega)
noncomputable def F42 (x : RSt) (i : Ins) : OR := modesR gS (Nv.form i.1) i x
theorem fn42 : FnP Try.prog 38 trSt sIns rE fun x y => F42 x y.1 := evalP_ok tt_ok mixed names fun x y z h => by
  obtain ⟨i, ⟨⟩⟩ := y
  exact ⟨_, _, _, okS, (e42_eq gS i x).trans h⟩
theorem fn41 : FnOK Try.prog 37 sOp [.val tI, .val tI] fun x => bif true then some (Nv.spR x.1, Nv.spW x.1, ()) else none := fnDom fun x _ => by
  obtain ⟨k, ⟨⟩⟩ := x
  exact ⟨_, call0_ok, [], (e41_eq k).trans (spanQ_eq k _)⟩
/-! ### step -/
noncomputable def gU : GU := ⟨F42, Nv.spR, Nv.spW, Nv.inB, short big9, Nv.withP, short 100000000⟩
theorem okU (R : Type) : CallsOK Try.prog (callU2 gU R) := callsE_ok tt_ok mixed names (fun fn s hs => by
  unfold specsU2 at hs
  split at hs
  · cases hs; exact specD_ok fnIn flat_bool (cntN 39 (by kernel_rfl))
  · cases hs; exact specO_ok fnWith (cntN 40 (by kernel_rfl))
  · cases hs; exact specD_ok fn41 flatII (cntN 37 (by kernel_rfl))
  · cases hs; exact specP_ok fn42 (cntN 38 (by kernel_rfl))
  · cases hs) 20
theorem wthQ_ok {α : Type} {d : Bool} {l : List Int} {k : List Int → Option α} (h : d = true) : wthQ d l k = k l := by subst h; rfl
theorem rst0_loop {x : RSt} {i : Ins} {w : Int} {r : Nat} (ha : -1000 ≤ i.2.1 ∧ i.2.1 ≤ 5000) (hr : r ≤ 100) (hwl : x.2.2.2.1.length ≤ 1000000) :
    ∀ (n k : Nat) (R : List Int), k + n = r → R.length ≤ 1000000 + k → lim (S240 gU) (setRd x R, i, (r : Int), w, (k : Int), ()) = some (.inl (setRd x (Nv.addR x.2.2.2.1 i.2.1 n (k : Int) R), i, w, ()))
  | 0, k, R, h, _ => by
    refine lim_end ?_
    rw [S240_eq, decide_eq_false (show ¬ (k : Int) < (r : Int) by omega), cond_false]; rfl
  | n + 1, k, R, h, hR => by
    have e1 : decide ((k : Int) < (r : Int)) = true := decide_eq_true (by omega)
    have e2 : w64 (i.2.1 + (k : Int)) = i.2.1 + (k : Int) := w64_small (by omega) (by omega)
    have hd : gU.dInn (setRd x R).2.2.2.1 = true := short_iff.2 (show x.2.2.2.1.length ≤ 1000000000 by omega)
    have hwd : gU.dWth (setRd x R).2.2.1 = true := short_iff.2 (show R.length ≤ 100000000 by omega)
    have hl := Nv.withP_len R (i.2.1 + (k : Int))
    simp only [Nv.addR]
    cases hb : Nv.inB x.2.2.2.1 (i.2.1 + (k : Int)) with
    | true =>
      have hs : S240 gU (setRd x R, i, (r : Int), w, (k : Int), ()) = some (.inl (setRd x R, i, (r : Int), w, ((k + 1 : Nat) : Int), ())) := by
        rw [S240_eq, e1, e2, cond_true, hd, show gU.inn (setRd x R).2.2.2.1 (i.2.1 + (k : Int)) = true from hb, Bool.not_true, cond_false, w64_small (by omega) (by omega)]; rfl
      rw [lim_next hs, if_pos rfl]
      exact rst0_loop ha hr hwl n (k + 1) R (by omega) (by omega)
    | false =>
      have hs : S240 gU (setRd x R, i, (r : Int), w, (k : Int), ()) = some (.inl (setRd x (Nv.withP R (i.2.1 + (k : Int))), i, (r : Int), w, ((k + 1 : Nat) : Int), ())) := by
        rw [S240_eq, e1, e2, cond_true, hd, show gU.inn (setRd x R).2.2.2.1 (i.2.1 + (k : Int)) = false from hb, Bool.not_false, cond_true, wthQ_ok hwd, w64_small (by omega) (by omega)]; rfl
      rw [lim_next hs, if_neg (by simp)]
      exact rst0_loop ha hr hwl n (k + 1) _ (by omega) (by omega)
theorem rst2_loop {x : RSt} {i : Ins} {r : Nat} (ha : -1000 ≤ i.2.1 ∧ i.2.1 ≤ 5000) (hr : r ≤ 100) :
    ∀ (n k : Nat) (W : List Int), k + n = r → W.length ≤ 1000000 + k → lim (S242 gU) (setWr x W, i, (r : Int), (k : Int), ()) = some (.inl (setWr x (Nv.addW i.2.1 n (k : Int) W), ()))
  | 0, k, W, h, _ => by
    refine lim_end ?_
    rw [S242_eq, decide_eq_false (show ¬ (k : Int) < (r : Int) by omega), cond_false]; rfl
  | n + 1, k, W, h, hW => by
    have e1 : decide ((k : Int) < (r : Int)) = true := decide_eq_true (by omega)
    have e2 : w64 (i.2.1 + (k : Int)) = i.2.1 + (k : Int) := w64_small (by omega) (by omega)
    have hwd : gU.dWth (setWr x W).2.2.2.1 = true := short_iff.2 (show W.length ≤ 100000000 by omega)
    have hl := Nv.withP_len W (i.2.1 + (k : Int))
    simp only [Nv.addW]
    have hs : S242 gU (setWr x W, i, (r : Int), (k : Int), ()) = some (.inl (setWr x (Nv.withP W (i.2.1 + (k : Int))), i, (r : Int), ((k + 1 : Nat) : Int), ())) := by
      rw [S242_eq, e1, e2, cond_true, wthQ_ok hwd, w64_small (by omega) (by omega)]; rfl
    rw [lim_next hs]
    exact rst2_loop ha hr n (k + 1) _ (by omega) (by omega)
noncomputable def F24 (x : RSt) (i : Ins) : OR := bif decide (w64 (Nv.spR i.1 + Nv.spW i.1) > 0) then bif decide (w64 (w64 (w64 (i.2.1 + Nv.spR i.1) + Nv.spW i.1) - 1) > 2047) then retR x 3 else stepR5 gU i x else stepR5 gU i x
theorem stepR5_ok {i : Ins} {x : RSt} {c : Nat} (hi : Fit i) (hc : c ≤ 5000) (hx : Nv.Good c x) (hno : ¬ (Nv.spR i.1 + Nv.spW i.1 > 0 ∧ i.2.1 + Nv.spR i.1 + Nv.spW i.1 - 1 > 2047)) : Ans Same5 (stepR5 gU i x) (Nv.stepE i x) := by
  obtain ⟨z, hz, hr⟩ := modesR_ok hi.op.1 hi.op.2 hx
  unfold stepR5 Nv.stepE
  rw [if_neg hno]
  show Ans Same5 (match modesR gS (Nv.form i.1) i x with
    | none => none
    | some z => bif z.2.1 != 0 then retR z.1 z.2.1 else match lim (S240 gU) (z.1, i, Nv.spR i.1, Nv.spW i.1, 0, ()) with
      | none => none
      | some (.inl y) => (match lim (S242 gU) (y.1, y.2.1, y.2.2.1, 0, ()) with
        | none => none
        | some (.inl q) => retR (setSt q.1 (w64 (q.1.2.2.2.2.1 + 1))) 0
        | some (.inr _) => none)
      | some (.inr _) => none) _
  rw [hz]
  simp only
  by_cases he : (Nv.modesE i x).2 = 0
  · rw [he, show ((0 : Int) != 0) = false by rfl, cond_false]
    have hn : ¬ (0 : Int) ≠ 0 := fun h => h rfl
    rw [if_neg hn]
    have hk := Nv.modesE_keeps hx he
    have hze : z = (Nv.modesE i x).1 := hr he
    subst hze
    have sp := Nv.sp_le i.1
    obtain ⟨r, hrr⟩ : ∃ r : Nat, Nv.spR i.1 = (r : Int) := ⟨(Nv.spR i.1).toNat, by omega⟩
    obtain ⟨w, hww⟩ : ∃ w : Nat, Nv.spW i.1 = (w : Int) := ⟨(Nv.spW i.1).toNat, by omega⟩
    have hrl := hx.rlen
    have hwl := hx.wlen
    have hR : (Nv.modesE i x).1.2.2.1 = x.2.2.1 := hk.reads
    have hW : (Nv.modesE i x).1.2.2.2.1 = x.2.2.2.1 := hk.writes
    have q1 := rst0_loop (x := (Nv.modesE i x).1) (i := i) (w := Nv.spW i.1) (r := r) hi.arg (by omega) (by rw [hW]; omega) r 0 (Nv.modesE i x).1.2.2.1 (by omega) (by rw [hR]; omega)
    have q1' : lim (S240 gU) ((Nv.modesE i x).1, i, Nv.spR i.1, Nv.spW i.1, 0, ()) = some (.inl (setRd (Nv.modesE i x).1 (Nv.addR (Nv.modesE i x).1.2.2.2.1 i.2.1 r 0 (Nv.modesE i x).1.2.2.1), i, Nv.spW i.1, ())) := by
      rw [hrr]; exact q1
    rw [q1']
    simp only
    generalize hy : setRd (Nv.modesE i x).1 (Nv.addR (Nv.modesE i x).1.2.2.2.1 i.2.1 r 0 (Nv.modesE i x).1.2.2.1) = y
    have hyW : y.2.2.2.1 = x.2.2.2.1 := by rw [← hy]; exact hW
    have q2 := rst2_loop (x := y) (i := i) (r := w) hi.arg (by omega) w 0 y.2.2.2.1 (by omega) (by rw [hyW]; omega)
    have q2' : lim (S242 gU) (y, i, Nv.spW i.1, 0, ()) = some (.inl (setWr y (Nv.addW i.2.1 w 0 y.2.2.2.1), ())) := by
      rw [hww]; exact q2
    rw [q2']
    simp only
    have hst : (setWr y (Nv.addW i.2.1 w 0 y.2.2.2.1)).2.2.2.2.1 = x.2.2.2.2.1 := by rw [← hy]; exact hk.steps
    rw [hst, hx.steps, w64_small (by omega) (by omega)]
    refine Ans.ok ?_
    show _ = _
    rw [← hy, hrr, hww, ← hk.reads, ← hk.writes]
    simp only [Int.toNat_natCast]
    rfl
  · rw [show ((Nv.modesE i x).2 != 0) = true by simpa using he, cond_true, if_pos he]
    exact Ans.err he
theorem F24_ok {i : Ins} {x : RSt} {c : Nat} (hi : Fit i) (hc : c ≤ 5000) (hx : Nv.Good c x) : Ans Same5 (F24 x i) (Nv.stepE i x) := by
  unfold F24
  have sp := Nv.sp_le i.1
  have ha := hi.arg
  rw [w64_small (k := Nv.spR i.1 + Nv.spW i.1) (by omega) (by omega), w64_small (k := i.2.1 + Nv.spR i.1) (by omega) (by omega), w64_small (k := i.2.1 + Nv.spR i.1 + Nv.spW i.1) (by omega) (by omega), w64_small (k := i.2.1 + Nv.spR i.1 + Nv.spW i.1 - 1) (by omega) (by omega)]
  by_cases h1 : Nv.spR i.1 + Nv.spW i.1 > 0
  · rw [decide_eq_true h1, cond_true]
    by_cases h2 : i.2.1 + Nv.spR i.1 + Nv.spW i.1 - 1 > 2047
    · rw [decide_eq_true h2, cond_true]
      unfold Nv.stepE
      rw [if_pos ⟨h1, h2⟩]
      exact Ans.err (by omega)
    · rw [decide_eq_false h2, cond_false]
      exact stepR5_ok hi hc hx (by omega)
  · rw [decide_eq_false h1, cond_false]
    exact stepR5_ok hi hc hx (by omega)
theorem fn24 : FnP Try.prog 19 trSt sIns rE fun x y => F24 x y.1 := evalP_ok tt_ok mixed names fun x y z h => by
  obtain ⟨i, ⟨⟩⟩ := y
  exact ⟨_, _, _, okU, (e24_eq gU i x).trans h⟩
/-! ### Of -/
noncomputable def gO : GO := ⟨decP, inOKb, F24⟩
theorem okO (R : Type) : CallsOK Try.prog (callO gO R) := callsE_ok tt_ok mixed names (fun fn s hs => by
  unfold specsO at hs
  split at hs
  · cases hs; exact specD_ok k27 flatDec (cntN 18 (by kernel_rfl))
  · cases hs; exact specP_ok fn24 (cntN 19 (by kernel_rfl))
  · cases hs) 20
theorem rest7_eq (code : List Int) (e : Eff5) (i : Ins) (x : RSt) (next : Int) : rest7 code e i x next = if i.1 = 36 ∨ i.1 = 37 ∨ i.1 = 38 then (if next < (code.length : Int) then ret7 effZ next 5 else ret7 (Nv.nextE i x.2.2) 0 0) else some (.inl (code, e, x, next, ())) := by
  have fe : ∀ f : Eff5, fin7 code f next = if next < (code.length : Int) then ret7 effZ next 5 else ret7 f 0 0 := fun f => by
    unfold fin7
    by_cases h : next < (code.length : Int)
    · rw [decide_eq_true h, if_pos h]; rfl
    · rw [decide_eq_false h, if_neg h]; rfl
  unfold rest7
  rw [bif_eq, bif_eq, bif_eq, fe, fe, fe]
  unfold Nv.nextE
  by_cases h1 : i.1 = 36
  · have hor : i.1 = 36 ∨ i.1 = 37 ∨ i.1 = 38 := .inl h1
    simp only [if_pos h1, if_pos hor]; rfl
  by_cases h2 : i.1 = 37
  · have hor : i.1 = 36 ∨ i.1 = 37 ∨ i.1 = 38 := .inr (.inl h2)
    simp only [if_neg h1, if_pos h2, if_pos hor]; rfl
  by_cases h3 : i.1 = 38
  · have hor : i.1 = 36 ∨ i.1 = 37 ∨ i.1 = 38 := .inr (.inr h3)
    simp only [if_neg h1, if_neg h2, if_pos h3, if_pos hor]
  have hno : ¬ (i.1 = 36 ∨ i.1 = 37 ∨ i.1 = 38) := by omega
  simp only [if_neg h1, if_neg h2, if_neg h3, if_neg hno]
theorem of7_loop {code : List Int} (hc : inOKb code = true) (hl : code.length ≤ 1024) : ∀ (n : Nat) (at_ : Int) (x : RSt) (c : Nat), 0 ≤ at_ → (c : Int) ≤ at_ → at_ ≤ (code.length : Int) → (code.length : Int) < at_ + n → Nv.Good c x →
    outOf code (Nv.ofE decP code n x at_) (lim (S70 gO) (code, effZ, x, at_, ()))
  | 0, at_, x, c, _, _, h1, h2, _ => by omega
  | n + 1, at_, x, c, h0, hca, h1, h2, hx => by
    unfold Nv.ofE
    by_cases hat : at_ < (code.length : Int)
    · rw [if_pos hat]
      have hS : S70 gO (code, effZ, x, at_, ()) = body7 gO code effZ x at_ (decP code at_) := by
        rw [S70_eq, decide_eq_true hat, cond_true]
        show onlyQ (inOKb code) _ = _
        unfold onlyQ
        rw [hc]; rfl
      unfold body7 at hS
      by_cases hd : (decP code at_).2.2 = 0
      · rw [hd, show ((0 : Int) == 0) = true by rfl, cond_true] at hS
        obtain ⟨hf, harg⟩ := dec_fit hd
        obtain ⟨hfit, hnext, hle, _⟩ := dec_fits hd
        have hlp := len_pos hfit.1.1 hfit.1.2
        have htb := tbl hfit.1.1 hfit.1.2
        obtain ⟨z, hz, hr⟩ := F24_ok hf (by omega) hx
        change S70 gO _ = step7 at_ (F24 x (decP code at_).1) _ at hS
        rw [hz] at hS
        unfold step7 at hS
        simp only at hS
        have hno : ¬ (decP code at_).2.2 ≠ 0 := fun h => h hd
        rw [if_neg hno]
        by_cases hs : (Nv.stepE (decP code at_).1 x).2 = 0
        · have hno2 : ¬ (Nv.stepE (decP code at_).1 x).2 ≠ 0 := fun h => h hs
          rw [if_neg hno2]
          rw [hs, show ((0 : Int) != 0) = false by rfl, cond_false] at hS
          have hg := Nv.stepE_good hx ⟨htb.out2, htb.out0⟩ harg hs
          have hw2 : z = _ := hr hs
          subst hw2
          rw [rest7_eq] at hS
          by_cases he : (decP code at_).1.1 = 36 ∨ (decP code at_).1.1 = 37 ∨ (decP code at_).1.1 = 38
          · rw [if_pos he] at hS
            rw [if_pos he]
            by_cases hb : (decP code at_).2.1 < (code.length : Int)
            · rw [if_pos hb] at hS
              rw [if_pos hb]
              exact .inl (lim_end hS)
            · rw [if_neg hb] at hS
              rw [if_neg hb]
              exact .inl (lim_end hS)
          · rw [if_neg he] at hS
            rw [if_neg he, lim_next hS]
            exact of7_loop hc hl n _ _ (c + 1) (by omega) (by omega) hle (by omega) hg
        · rw [if_pos hs]
          rw [show ((Nv.stepE (decP code at_).1 x).2 != 0) = true by simpa using hs, cond_true] at hS
          exact .inl (lim_end hS)
      · rw [show ((decP code at_).2.2 == 0) = false by simpa using hd, cond_false, show ((decP code at_).2.2 != 0) = true by simpa using hd, cond_true] at hS
        rw [if_pos hd]
        exact .inl (lim_end hS)
    · rw [if_neg hat]
      refine .inr ⟨rfl, lim_end ?_⟩
      rw [S70_eq, decide_eq_false hat, cond_false]
theorem of7_eq {code : List Int} (hc : wdsOk code = true) : evalT Try.prog tt (callO gO) [or0] [] 8 [.val tWs] rOf (code, ()) = some ((Nv.ofP decP code).1, (Nv.ofP decP code).2.1, (Nv.ofP decP code).2.2, ()) := by
  rw [e7_eq]
  unfold Nv.ofP
  by_cases hl : (code.length : Int) > 1024
  · rw [decide_eq_true hl, cond_true, if_pos hl]; rfl
  · rw [decide_eq_false hl, cond_false, if_neg hl]
    have h := of7_loop (wdsOk_in hc (by omega)) (by omega) (code.length + 1) 0 Nv.est0 0 (by omega) (by omega) (by omega) (by omega) Nv.Good.start
    have h' : outOf code (Nv.ofE decP code (code.length + 1) Nv.est0 0) (lim (S70 gO) (code, effZ, st0, 0, ())) := h
    rcases h' with h | ⟨h1, h2⟩
    · rw [h]
    · rw [h2, h1]
theorem fnOf7 : FnT Try.prog 8 [.val tWs] rOf fun x => bif wdsOk x.1 then some ((Nv.ofP decP x.1).1, (Nv.ofP decP x.1).2.1, (Nv.ofP decP x.1).2.2, ()) else none := domT fun x hx => by
  obtain ⟨l, ⟨⟩⟩ := x
  exact ⟨_, okO, _, _, of7_eq hx⟩
end Go.Pv
/-! ### Safe, Check, Same, live: what they compute; the laws EffectTells and EffectLists return true. -/
namespace Go.Pv
open Go.Proofs
set_option maxRecDepth 1000000
/-- an effect that Of may return -/
structure Fine (f : Nv.Eff) : Prop where
  rlen : f.1.length ≤ 100000
  wlen : f.2.1.length ≤ 100000
  rin : ∀ y ∈ f.1, 0 ≤ y ∧ y ≤ 2047
  win : ∀ y ∈ f.2.1, 0 ≤ y ∧ y ≤ 2047
  next : f.2.2.2.2.length ≤ 2
theorem Fine.zero : Fine Nv.eff0 := ⟨Nat.zero_le _, Nat.zero_le _, (fun y hy => (List.not_mem_nil hy).elim), (fun y hy => (List.not_mem_nil hy).elim), Nat.zero_le _⟩
theorem ofE_fine {code : List Int} : ∀ (n : Nat) (at_ : Int) (x : Nv.ESt) (c : Nat), c + n ≤ 2000 → Nv.Good c x → Fine (Nv.ofE decP code n x at_).1
  | 0, _, _, _, _, _ => Fine.zero
  | n + 1, at_, x, c, h, hx => by
    unfold Nv.ofE
    by_cases hat : at_ < (code.length : Int)
    · rw [if_pos hat]
      by_cases hd : (decP code at_).2.2 = 0
      · have hno : ¬ (decP code at_).2.2 ≠ 0 := fun h => h hd
        rw [if_neg hno]
        by_cases hs : (Nv.stepE (decP code at_).1 x).2 = 0
        · have hno2 : ¬ (Nv.stepE (decP code at_).1 x).2 ≠ 0 := fun h => h hs
          rw [if_neg hno2]
          obtain ⟨hf, harg⟩ := dec_fit hd
          have htb := tbl hf.op.1 hf.op.2
          have hg := Nv.stepE_good hx ⟨htb.out2, htb.out0⟩ harg hs
          by_cases he : (decP code at_).1.1 = 36 ∨ (decP code at_).1.1 = 37 ∨ (decP code at_).1.1 = 38
          · rw [if_pos he]
            split
            · exact Fine.zero
            · have a := hg.rlen
              have b := hg.wlen
              refine ⟨by show (Nv.stepE _ x).1.2.2.1.length ≤ _; omega, by show (Nv.stepE _ x).1.2.2.2.1.length ≤ _; omega, hg.rin, hg.win, ?_⟩
              unfold Nv.nextE
              simp only
              split
              · simp
              · split
                · simp
                · rw [hg.next]; simp
          · rw [if_neg he]
            exact ofE_fine n _ _ (c + 1) (by omega) hg
        · rw [if_pos hs]; exact Fine.zero
      · rw [if_pos hd]; exact Fine.zero
    · rw [if_neg hat]; exact Fine.zero
theorem ofP_fine (code : List Int) : Fine (Nv.ofP decP code).1 := by
  unfold Nv.ofP
  split
  · exact Fine.zero
  · exact ofE_fine _ _ _ 0 (by omega) Nv.Good.start
theorem wfL_in {l : List Int} (h : ∀ y ∈ l, 0 ≤ y ∧ y ≤ 2047) : wfL l = true := List.all_eq_true.2 fun y hy => wfI_small (by have := h y hy; omega) (by have := h y hy; omega)
def dSafe (f : Eff5) : Bool := dCom f.1 f.2.1
theorem Fine.safe {f : Nv.Eff} (h : Fine f) : dSafe f = true := dCom_iff.2 ⟨⟨⟨by have := h.rlen; omega, by have := h.wlen; omega⟩, wfL_in h.rin⟩, wfL_in h.win⟩
def dSame (a b : Eff5) : Bool := decide (a = b) && (short big9 a.1 && (short big9 a.2.1 && short big9 a.2.2.2.2))
theorem Fine.same {f : Nv.Eff} (h : Fine f) : dSame f f = true := by
  have a := h.rlen
  have b := h.wlen
  have c := h.next
  simp only [dSame, Bool.and_eq_true, short_iff, big9, decide_eq_true_eq]
  exact ⟨trivial, by omega, by omega, by omega⟩
def gT : GT := ⟨Nv.ofP decP, wdsOk, Nv.common, dCom, Nv.safeP, dSafe, Nv.checkP decP, fun _ _ => true, dSame, fun _ _ => true, dInts, short big9⟩
theorem askQ_ok {α β : Type} {d : Bool} {v : α} {k : α → Option β} (h : d = true) : askQ d v k = k v := by subst h; rfl
theorem getQ_ok {α β : Type} {d : Bool} {v : α} {k : α → Option β} (h : d = true) : getQ d v k = k v := by subst h; rfl
theorem andQ_ok {b : Bool} {k : OB} (h : b = true) : andQ b k = k := by subst h; rfl
theorem ieq_self (a : Int) : (a == a) = true := by simp
/-- what is known, without the law's own 'live' -/
theorem specs_low (on : List Nat) (h9 : hasN 21 on = false) (h10 : hasN 41 on = false) (h11 : hasN 13 on = false) (h12 : hasN 25 on = false) (h8 : hasN 14 on = false) (h14 : hasN 5 on = false) (R : Type) : CallsOK Try.prog (callT gT on R) := callsE_ok tt_ok mixed names (fun fn s hs => by
  unfold specsT at hs
  cases hb : hasN fn on with
  | false => rw [hb] at hs; cases hs
  | true =>
    rw [hb, cond_true] at hs
    split at hs
    · cases hs; exact specL_ok fnWords5 (cntN 15 (by kernel_rfl))
    · cases hs; exact specL_ok fnOf6 (cntN 12 (by kernel_rfl))
    · cases hs; exact specL_ok fnOf7 (cntN 8 (by kernel_rfl))
    · rw [h8] at hb; cases hb
    · rw [h9] at hb; cases hb
    · rw [h10] at hb; cases hb
    · rw [h11] at hb; cases hb
    · rw [h12] at hb; cases hb
    · rw [h14] at hb; cases hb
    · cases hs; exact specL_ok fnInts.toT (cntN 31 (by kernel_rfl))
    · cases hs; exact specL_ok fnCom16 (cntN 23 (by kernel_rfl))
    · cases hs; exact specL_ok fnCom17 (cntN 42 (by kernel_rfl))
    · cases hs) 20
theorem zlen (l : List Int) : ((l.length : Int) == 0) = (l.length == 0) := by
  by_cases h : l.length = 0
  · simp [h]
  · rw [beq_eq_false_iff_ne.2 h, beq_eq_false_iff_ne.2 (by omega)]
theorem fnSafe9 : FnT Try.prog 21 sE1 [Sl.val 0 .bool] fun x => bif dSafe x.1 then some (Nv.safeP x.1, ()) else none := domT fun x hx => by
  obtain ⟨f, ⟨⟩⟩ := x
  refine ⟨_, specs_low [23] rfl rfl rfl rfl rfl rfl, [], [], (e9_eq gT f).trans ((askQ_ok hx).trans ?_)⟩
  rw [zlen]; rfl
theorem fnSafe10 : FnT Try.prog 41 sE1 [Sl.val 0 .bool] fun x => bif dSafe x.1 then some (Nv.safeP x.1, ()) else none := domT fun x hx => by
  obtain ⟨f, ⟨⟩⟩ := x
  refine ⟨_, specs_low [42] rfl rfl rfl rfl rfl rfl, [], [], (e10_eq gT f).trans ((askQ_ok hx).trans ?_)⟩
  rw [zlen]; rfl
theorem fnSame8 : FnT Try.prog 14 sEE [Sl.val 0 .bool] fun x => bif dSame x.1 x.2.1 then some (true, ()) else none := domT fun x hx => by
  obtain ⟨a, b, ⟨⟩⟩ := x
  simp only [dSame, Bool.and_eq_true, decide_eq_true_eq] at hx
  obtain ⟨rfl, h1, h2, h3⟩ := hx
  have hd : ∀ l : List Int, short big9 l = true → dInts l l = true := fun l hl => by unfold dInts; rw [hl, decide_eq_true rfl]; rfl
  refine ⟨_, specs_low [31] rfl rfl rfl rfl rfl rfl, [], [], (e8_eq gT a a).trans ?_⟩
  exact (askQ_ok (hd _ h1)).trans ((andQ_ok rfl).trans ((askQ_ok (hd _ h2)).trans ((andQ_ok rfl).trans ((andQ_ok (ieq_self _)).trans ((andQ_ok (ieq_self _)).trans (askQ_ok (hd _ h3)))))))
theorem specs_mid (on : List Nat) (h11 : hasN 13 on = false) (h12 : hasN 25 on = false) (h14 : hasN 5 on = false) (R : Type) : CallsOK Try.prog (callT gT on R) := callsE_ok tt_ok mixed names (fun fn s hs => by
  unfold specsT at hs
  cases hb : hasN fn on with
  | false => rw [hb] at hs; cases hs
  | true =>
    rw [hb, cond_true] at hs
    split at hs
    · cases hs; exact specL_ok fnWords5 (cntN 15 (by kernel_rfl))
    · cases hs; exact specL_ok fnOf6 (cntN 12 (by kernel_rfl))
    · cases hs; exact specL_ok fnOf7 (cntN 8 (by kernel_rfl))
    · cases hs; exact specL_ok fnSame8 (cntN 14 (by kernel_rfl))
    · cases hs; exact specL_ok fnSafe9 (cntN 21 (by kernel_rfl))
    · cases hs; exact specL_ok fnSafe10 (cntN 41 (by kernel_rfl))
    · rw [h11] at hb; cases hb
    · rw [h12] at hb; cases hb
    · rw [h14] at hb; cases hb
    · cases hs; exact specL_ok fnInts.toT (cntN 31 (by kernel_rfl))
    · cases hs; exact specL_ok fnCom16 (cntN 23 (by kernel_rfl))
    · cases hs; exact specL_ok fnCom17 (cntN 42 (by kernel_rfl))
    · cases hs) 20
theorem chkQ_ok {c : List Int} (h : wdsOk c = true) : chkQ gT c = some (Nv.checkP decP c, ()) := by
  unfold chkQ ofQ
  refine (getQ_ok h).trans ?_
  show (bif (Nv.ofP decP c).2.2 == 0 then askQ (dSafe (Nv.ofP decP c).1) (Nv.safeP (Nv.ofP decP c).1) fun b => bif !b then some (15, ()) else some ((Nv.ofP decP c).2.2, ()) else some ((Nv.ofP decP c).2.2, ())) = _
  rw [bif_eq, askQ_ok (ofP_fine c).safe]
  unfold Nv.checkP
  by_cases h0 : (Nv.ofP decP c).2.2 = 0
  · rw [if_pos h0]
    cases hs : Nv.safeP (Nv.ofP decP c).1 with
    | true =>
      have hno : ¬ ((Nv.ofP decP c).2.2 = 0 ∧ true = false) := by simp
      rw [if_neg hno]; rfl
    | false => rw [if_pos ⟨h0, rfl⟩]; rfl
  · have hno : ¬ ((Nv.ofP decP c).2.2 = 0 ∧ Nv.safeP (Nv.ofP decP c).1 = false) := fun h => h0 h.1
    rw [if_neg h0, if_neg hno]
theorem fnChk11 : FnT Try.prog 13 sC1 [Sl.val 0 tI] fun x => bif wdsOk x.1 then some (Nv.checkP decP x.1, ()) else none := domT fun x hx => by
  obtain ⟨c, ⟨⟩⟩ := x
  exact ⟨_, specs_mid [12, 21] rfl rfl rfl, [], [], (e11_eq gT c).trans (chkQ_ok hx)⟩
theorem fnChk12 : FnT Try.prog 25 sC1 [Sl.val 0 tI] fun x => bif wdsOk x.1 then some (Nv.checkP decP x.1, ()) else none := domT fun x hx => by
  obtain ⟨c, ⟨⟩⟩ := x
  exact ⟨_, specs_mid [8, 41] rfl rfl rfl, [], [], (e12_eq gT c).trans (chkQ_ok hx)⟩
theorem specs_hi (on : List Nat) (h14 : hasN 5 on = false) (R : Type) : CallsOK Try.prog (callT gT on R) := callsE_ok tt_ok mixed names (fun fn s hs => by
  unfold specsT at hs
  cases hb : hasN fn on with
  | false => rw [hb] at hs; cases hs
  | true =>
    rw [hb, cond_true] at hs
    split at hs
    · cases hs; exact specL_ok fnWords5 (cntN 15 (by kernel_rfl))
    · cases hs; exact specL_ok fnOf6 (cntN 12 (by kernel_rfl))
    · cases hs; exact specL_ok fnOf7 (cntN 8 (by kernel_rfl))
    · cases hs; exact specL_ok fnSame8 (cntN 14 (by kernel_rfl))
    · cases hs; exact specL_ok fnSafe9 (cntN 21 (by kernel_rfl))
    · cases hs; exact specL_ok fnSafe10 (cntN 41 (by kernel_rfl))
    · cases hs; exact specL_ok fnChk11 (cntN 13 (by kernel_rfl))
    · cases hs; exact specL_ok fnChk12 (cntN 25 (by kernel_rfl))
    · rw [h14] at hb; cases hb
    · cases hs; exact specL_ok fnInts.toT (cntN 31 (by kernel_rfl))
    · cases hs; exact specL_ok fnCom16 (cntN 23 (by kernel_rfl))
    · cases hs; exact specL_ok fnCom17 (cntN 42 (by kernel_rfl))
    · cases hs) 20
theorem live1 : Nv.ofP decP [1, 64, 3, 66, 36, 2] = (liveEff, 0, 0) := by decide +kernel
theorem live2 : Nv.checkP decP [1, 64, 3, 64, 38] = 15 := by decide +kernel
theorem fnLive14 : FnT Try.prog 5 [] [Sl.val 0 .bool] fun _ => some (true, ()) := mkT fun x y h => by
  obtain ⟨⟩ := x
  refine ⟨_, specs_hi [12, 14, 13] rfl, [], [], (e14v_eq gT).trans (Eq.trans ?_ h)⟩
  unfold ofQ
  have a1 : gT.dOf [1, 64, 3, 66, 36, 2] = true := by decide
  have a2 : gT.dOf [1, 64, 3, 64, 38] = true := by decide
  have hof : gT.of [1, 64, 3, 66, 36, 2] = (liveEff, 0, 0) := live1
  have hck : gT.chk [1, 64, 3, 64, 38] = 15 := live2
  have a3 : gT.dSame liveEff liveEff = true := by decide
  rw [getQ_ok a1, askQ_ok a2, hof, hck]
  exact (andQ_ok rfl).trans ((askQ_ok a3).trans ((andQ_ok rfl).trans rfl))
theorem specs_all (on : List Nat) (R : Type) : CallsOK Try.prog (callT gT on R) := callsE_ok tt_ok mixed names (fun fn s hs => by
  unfold specsT at hs
  cases hb : hasN fn on with
  | false => rw [hb] at hs; cases hs
  | true =>
    rw [hb, cond_true] at hs
    split at hs
    · cases hs; exact specL_ok fnWords5 (cntN 15 (by kernel_rfl))
    · cases hs; exact specL_ok fnOf6 (cntN 12 (by kernel_rfl))
    · cases hs; exact specL_ok fnOf7 (cntN 8 (by kernel_rfl))
    · cases hs; exact specL_ok fnSame8 (cntN 14 (by kernel_rfl))
    · cases hs; exact specL_ok fnSafe9 (cntN 21 (by kernel_rfl))
    · cases hs; exact specL_ok fnSafe10 (cntN 41 (by kernel_rfl))
    · cases hs; exact specL_ok fnChk11 (cntN 13 (by kernel_rfl))
    · cases hs; exact specL_ok fnChk12 (cntN 25 (by kernel_rfl))
    · cases hs; exact specL_ok fnLive14 (cntN 5 (by kernel_rfl))
    · cases hs; exact specL_ok fnInts.toT (cntN 31 (by kernel_rfl))
    · cases hs; exact specL_ok fnCom16 (cntN 23 (by kernel_rfl))
    · cases hs; exact specL_ok fnCom17 (cntN 42 (by kernel_rfl))
    · cases hs) 20
end Go.Pv
/-! ### Segments: within, number, has, next, region, unit: as the code says it. -/
namespace Go.Pv.Sg
open Go.Proofs
set_option maxRecDepth 1000000
@[reducible] def tSeg : Ty := .pair tI tWs
@[reducible] def tSegs : Ty := .slice tSeg
@[reducible] def tPl : Ty := .pair .str (.pair tU8 tI)
@[reducible] def tUn : Ty := .pair .str (.pair (.slice tPl) tSegs)
@[reducible] def tPg : Ty := .pair tIs (.pair (.slice tWs) (.pair tI (.pair tI tIs)))
abbrev SegD := Int × List Int
abbrev UnD := ByteArray × List (ByteArray × Int × Int) × List SegD
/-- Numbers, Codes, From, To, Fixed -/
abbrev PgD := List Int × List (List Int) × Int × Int × List Int
@[reducible] def sWi : Sig := [.val tIs, .val tI, .val tI]
@[reducible] def sUI : Sig := [.agg tUn, .val tI]
@[reducible] def sUIE : Sig := [.agg tUn, .val tI, .agg tEff]
@[reducible] def sEIIL : Sig := [.agg tEff, .val tI, .val tI, .val tIs]
@[reducible] def rI1 : TSh := [Sl.val 0 tI]
@[reducible] def rB1 : TSh := [Sl.val 0 .bool]
/-! ### within, number -/
def okB (b : Bool) : Option (Bool × Unit) := some (b, ())
def okI (n : Int) : Option (Int × Unit) := some (n, ())
theorem e22_eq (l : List Int) (a b : Int) : evalT Try.prog tt call0 [] [] 22 sWi rB1 (l, a, b, ()) =
    bif (l.length : Int) == 0 then okB true else bif inRange 0 l.length then bif decide (l.getD (0 : Int).toNat 0 ≥ a) then bif inRange (w64 ((l.length : Int) - 1)) l.length then okB (decide (l.getD (w64 ((l.length : Int) - 1)).toNat 0 < b)) else none else okB false else none := by kernel_rfl
def segAt (l : List SegD) (i : Int) : SegD := l.getD i.toNat (0, [])
theorem e24_eq (u : UnD) (i : Int) : evalT Try.prog tt call0 [] [] 24 sUI rI1 (u, i, ()) =
    bif inRange i u.2.2.length then bif decide ((segAt u.2.2 i).1 < 1) then okI 2 else bif decide ((segAt u.2.2 i).1 > 31) then okI 2 else bif decide (i > 0) then
      bif inRange (w64 (i - 1)) u.2.2.length then bif decide ((segAt u.2.2 i).1 ≤ (segAt u.2.2 (w64 (i - 1))).1) then okI 2 else okI 0 else none else okI 0 else none := by kernel_rfl
/-! ### has -/
def has0 : LoopT := ⟨0, [Sl.val 1 tI, Sl.box 2 (.dat tUn), Sl.val 5 tI], [], [Sl.val 4 .bool]⟩
abbrev X43 := Int × UnD × Int × Unit
noncomputable def S43 : X43 → Option (X43 ⊕ (Unit ⊕ (Bool × Unit))) := stepT tt call0 Try.f43.ntmps (hookT tt call0 100000 [has0] [] Try.f43.ntmps 4) 100000 has0 ((loopBody 0 ((Try.f43.body).getD .skip)).getD .skip)
theorem S43_eq (n : Int) (u : UnD) (i : Int) : S43 (n, u, i, ()) = bif decide (i < (u.2.2.length : Int)) then bif inRange i u.2.2.length then bif (segAt u.2.2 i).1 == n then some (.inr (.inr (true, ()))) else some (.inl (n, u, w64 (i + 1), ())) else none
    else some (.inr (.inl ())) := by kernel_rfl
theorem e43_eq (u : UnD) (n : Int) : evalT Try.prog tt call0 [has0] [] 43 sUI rB1 (u, n, ()) = match lim S43 (n, u, 0, ()) with
    | none => none
    | some (.inl _) => some (false, ())
    | some (.inr y) => some (y.1, ()) := by kernel_rfl
/-! ### next, region -/
structure GN where
  has : UnD → Int → Bool
  dHas : UnD → Bool
  com : List Int → List Int → List Int
  dCom : List Int → List Int → Bool
def specsN (g : GN) (R : Type) (fn : FuncId) : Option (List V → Mem → Nat → (Eff → Option R) → Option R) :=
  match fn with
  | 43 => some (specL sUI rB1 fun x => bif g.dHas x.1 then some (g.has x.1 x.2.1, ()) else none)
  | 42 => some (specL sLL rL fun x => bif g.dCom x.1 x.2.1 then some (g.com x.1 x.2.1, ()) else none)
  | _ => none
noncomputable def callN (g : GN) (R : Type) : CallE R := callsE Try.prog tt (specsN g R) 20
def nxt0 : LoopT := ⟨0, [Sl.val 1 tI, Sl.box 3 (.dat tUn), Sl.box 5 (.dat tEff), Sl.val 7 tI], [], [Sl.val 6 tI]⟩
abbrev X27 := Int × UnD × Eff5 × Int × Unit
abbrev O27 := Option (X27 ⊕ (Unit ⊕ (Int × Unit)))
noncomputable def S27 (g : GN) : X27 → O27 := stepT tt (callN g) Try.f27.ntmps (hookT tt (callN g) 100000 [nxt0] [] Try.f27.ntmps 4) 100000 nxt0 ((loopBody 0 ((Try.f27.body).getD .skip)).getD .skip)
theorem S27_eq (g : GN) (i : Int) (u : UnD) (f : Eff5) (k : Int) : S27 g (i, u, f, k, ()) =
    bif decide (k < (f.2.2.2.2.length : Int)) then bif inRange k f.2.2.2.2.length then bif inRange i u.2.2.length then bif decide (f.2.2.2.2.getD k.toNat 0 ≤ (segAt u.2.2 i).1) then some (.inr (.inr (14, ()))) else
      bif inRange k f.2.2.2.2.length then askQ (g.dHas u) (g.has u (f.2.2.2.2.getD k.toNat 0)) (fun b => bif !b then some (.inr (.inr (7, ()))) else some (.inl (i, u, f, w64 (k + 1), ()))) else none else none else none
    else some (.inr (.inl ())) := by kernel_rfl
theorem e27_eq (g : GN) (u : UnD) (i : Int) (f : Eff5) : evalT Try.prog tt (callN g) [nxt0] [] 27 sUIE rI1 (u, i, f, ()) = match lim (S27 g) (i, u, f, 0, ()) with
    | none => none
    | some (.inl _) => okI 0
    | some (.inr y) => okI y.1 := by kernel_rfl
def reg0 : LoopT := ⟨0, [Sl.val 1 tI, Sl.val 2 tI, Sl.val 3 tIs, Sl.box 4 (.dat tEff), Sl.val 9 tI], [Sl.val 1 tI, Sl.val 2 tI, Sl.val 3 tIs, Sl.box 4 (.dat tEff)], [Sl.val 8 tI]⟩
def reg2 : LoopT := ⟨2, [Sl.val 1 tI, Sl.val 2 tI, Sl.val 3 tIs, Sl.box 4 (.dat tEff), Sl.val 10 tI], [Sl.val 1 tI, Sl.val 2 tI, Sl.val 3 tIs, Sl.box 4 (.dat tEff)], [Sl.val 8 tI]⟩
abbrev X26r := Int × Int × List Int × Eff5 × Int × Unit
abbrev Y26r := Int × Int × List Int × Eff5 × Unit
abbrev O26r := Option (X26r ⊕ (Y26r ⊕ (Int × Unit)))
noncomputable def S260 (g : GN) : X26r → O26r := stepT tt (callN g) Try.f26.ntmps (hookT tt (callN g) 100000 [reg0, reg2] [] Try.f26.ntmps 4) 100000 reg0 ((loopBody 0 ((Try.f26.body).getD .skip)).getD .skip)
noncomputable def S262 (g : GN) : X26r → O26r := stepT tt (callN g) Try.f26.ntmps (hookT tt (callN g) 100000 [reg0, reg2] [] Try.f26.ntmps 4) 100000 reg2 ((loopBody 2 ((Try.f26.body).getD .skip)).getD .skip)
def regS (l : List Int) (a b : Int) (fx : List Int) (f : Eff5) (i : Int) : O26r := bif decide (i < (l.length : Int)) then bif inRange i l.length then bif decide (l.getD i.toNat 0 < a) then some (.inr (.inr (3, ()))) else
      bif inRange i l.length then bif decide (l.getD i.toNat 0 ≥ b) then some (.inr (.inr (3, ()))) else some (.inl (a, b, fx, f, w64 (i + 1), ())) else none else none else some (.inr (.inl (a, b, fx, f, ())))
theorem S260_eq (g : GN) (a b : Int) (fx : List Int) (f : Eff5) (i : Int) : S260 g (a, b, fx, f, i, ()) = regS f.1 a b fx f i := by kernel_rfl
theorem S262_eq (g : GN) (a b : Int) (fx : List Int) (f : Eff5) (i : Int) : S262 g (a, b, fx, f, i, ()) = regS f.2.1 a b fx f i := by kernel_rfl
theorem e26r_eq (g : GN) (f : Eff5) (a b : Int) (fx : List Int) : evalT Try.prog tt (callN g) [reg0, reg2] [] 26 sEIIL rI1 (f, a, b, fx, ()) = match lim (S260 g) (a, b, fx, f, 0, ()) with
    | none => none
    | some (.inl y) => (match lim (S262 g) (y.1, y.2.1, y.2.2.1, y.2.2.2.1, 0, ()) with
      | none => none
      | some (.inl z) => askQ (g.dCom z.2.2.2.1.2.1 z.2.2.1) (g.com z.2.2.2.1.2.1 z.2.2.1) fun l => bif decide ((l.length : Int) > 0) then okI 15 else okI 0
      | some (.inr z) => okI z.1)
    | some (.inr y) => okI y.1 := by kernel_rfl
/-! ### unit -/
@[reducible] def trUn : Tr := .pair (.dat .str) (.pair (.dat (.slice tPl)) (.row tSeg))
@[reducible] def sPg : Sig := [.agg tPg]
@[reducible] def rUn : TSh := [⟨0, true, false, trUn⟩]
def specsW (d : List Int → Bool) (R : Type) (fn : FuncId) : Option (List V → Mem → Nat → (Eff → Option R) → Option R) :=
  match fn with
  | 15 => some (specL sC1 [Sl.row 0 tW] fun x => bif d x.1 then some (x.1, ()) else none)
  | _ => none
noncomputable def callW (d : List Int → Bool) (R : Type) : CallE R := callsE Try.prog tt (specsW d R) 20
def un0 : LoopT := ⟨0, [Sl.box 1 (.dat tPg), Sl.box 2 (.dat tUn), Sl.box 3 trUn, Sl.val 4 tI], [Sl.box 2 (.dat tUn), Sl.box 3 trUn], []⟩
abbrev X6u := PgD × UnD × UnD × Int × Unit
abbrev O6u := Option (X6u ⊕ ((UnD × UnD × Unit) ⊕ Unit))
noncomputable def S6u (d : List Int → Bool) : X6u → O6u := stepT tt (callW d) Try.f6.ntmps (hookT tt (callW d) 100000 [un0] [] Try.f6.ntmps 4) 100000 un0 ((loopBody 0 ((Try.f6.body).getD .skip)).getD .skip)
def unK (d : List Int → Bool) (p : PgD) (z u : UnD) (i n : Int) : O6u := bif inRange i p.2.1.length then askQ (d (p.2.1.getD i.toNat [])) (p.2.1.getD i.toNat []) fun c => app (u.2.2 ++ [(n, c)]) fun l => some (.inl (p, z, (u.1, u.2.1, l), w64 (i + 1), ())) else none
theorem S6u_eq (d : List Int → Bool) (p : PgD) (z u : UnD) (i : Int) : S6u d (p, z, u, i, ()) =
    bif decide (i < (p.2.1.length : Int)) then bif decide (i < (p.1.length : Int)) then bif inRange i p.1.length then unK d p z u i (p.1.getD i.toNat 0) else none else unK d p z u i 0
    else some (.inr (.inl (z, u, ()))) := by kernel_rfl
def unZ : UnD := (⟨#[]⟩, [], [])
theorem e6u_eq (d : List Int → Bool) (p : PgD) : evalT Try.prog tt (callW d) [un0] [] 6 sPg rUn (p, ()) = match lim (S6u d) (p, unZ, unZ, 0, ()) with
    | none => none
    | some (.inl y) => some (y.2.1, ())
    | some (.inr _) => none := by kernel_rfl
end Go.Pv.Sg
/-! ### each, Unit, Work and the reference's Unit, Work: as the code says it. -/
namespace Go.Pv.Sg
open Go.Proofs
set_option maxRecDepth 1000000
structure GE where
  of : List Int → Eff5 × Int × Int
  dOf : List Int → Bool
  safe : Eff5 → Bool
  dSafe : Eff5 → Bool
  com : List Int → List Int → List Int
  dCom : List Int → List Int → Bool
  wi : List Int → Int → Int → Bool
  dWi : List Int → Bool
def specsE (g : GE) (R : Type) (fn : FuncId) : Option (List V → Mem → Nat → (Eff → Option R) → Option R) :=
  match fn with
  | 12 => some (specL sC1 rOf fun x => bif g.dOf x.1 then some ((g.of x.1).1, (g.of x.1).2.1, (g.of x.1).2.2, ()) else none)
  | 21 => some (specL sE1 rB1 fun x => bif g.dSafe x.1 then some (g.safe x.1, ()) else none)
  | 22 => some (specL sWi rB1 fun x => bif g.dWi x.1 then some (g.wi x.1 x.2.1 x.2.2.1, ()) else none)
  | 23 => some (specL sLL rL fun x => bif g.dCom x.1 x.2.1 then some (g.com x.1 x.2.1, ()) else none)
  | _ => none
noncomputable def callEa (g : GE) (R : Type) : CallE R := callsE Try.prog tt (specsE g R) 20
@[reducible] def trCap : Tr := .pair (.box (.dat tI)) (.pair (.box (.dat tI)) (.box (.dat tIs)))
abbrev Cap := Int × Int × List Int
@[reducible] def rEa : TSh := [Sl.row 0 tEff, Sl.val 1 tI, Sl.val 2 tI]
section
variable (fn : Nat) (tr : Tr)
@[reducible] def ea0h : TSh := [Sl.fn 1 fn tr, Sl.box 2 (.dat tUn), Sl.mp 7 .i64 .bool, Sl.val 21 tSegs, Sl.val 22 tI, Sl.val 23 tI]
@[reducible] def ea0 : LoopT := ⟨0, ea0h fn tr, [Sl.fn 1 fn tr, Sl.box 2 (.dat tUn), Sl.mp 7 .i64 .bool], []⟩
@[reducible] def ea2 : LoopT := ⟨2, [Sl.fn 1 fn tr, Sl.mp 7 .i64 .bool, Sl.val 10 tI, Sl.row 11 tEff, Sl.val 32 tSegs, Sl.val 33 tI, Sl.val 34 tI], [Sl.row 11 tEff], [Sl.row 4 tEff, Sl.val 5 tI, Sl.val 6 tI]⟩
@[reducible] def ea4 : LoopT := ⟨4, [Sl.fn 1 fn tr, Sl.mp 7 .i64 .bool, Sl.val 10 tI, Sl.row 11 tEff, Sl.box 13 (.dat tSeg), Sl.fbox 14 tEff, Sl.val 16 tI, Sl.val 32 tSegs, Sl.val 33 tI, Sl.val 34 tI, Sl.fval 64 tIs, Sl.val 65 tI, Sl.val 66 tI],
  [Sl.fn 1 fn tr, Sl.mp 7 .i64 .bool, Sl.val 10 tI, Sl.row 11 tEff, Sl.box 13 (.dat tSeg), Sl.box 14 (.dat tEff), Sl.val 16 tI, Sl.val 32 tSegs, Sl.val 33 tI, Sl.val 34 tI], []⟩
@[reducible] def eaL : List LoopT := [ea0 fn tr, ea2 fn tr, ea4 fn tr]
end
section
variable (C : Type)
abbrev XE0 := C × UnD × Mp × List SegD × Int × Int × Unit
abbrev YE0 := C × UnD × Mp × Unit
abbrev XE2 := C × Mp × Int × List Eff5 × List SegD × Int × Int × Unit
abbrev RE2 := List Eff5 × Int × Int × Unit
abbrev XE4 := C × Mp × Int × List Eff5 × SegD × Eff5 × Int × List SegD × Int × Int × List Int × Int × Int × Unit
abbrev YE4 := C × Mp × Int × List Eff5 × SegD × Eff5 × Int × List SegD × Int × Int × Unit
end
abbrev OE0 (C : Type) := Option (XE0 C ⊕ (YE0 C ⊕ Unit))
abbrev OE2 (C : Type) := Option (XE2 C ⊕ ((List Eff5 × Unit) ⊕ RE2))
abbrev OE4 (C : Type) := Option (XE4 C ⊕ (YE4 C ⊕ Unit))
section
variable {C : Type}
def e0S (c : C) (u : UnD) (m : Mp) (l : List SegD) (n i : Int) : OE0 C :=
  bif decide (i < n) then bif inRange i l.length then bif wfI (segAt l i).1 then some (.inl (c, u, putL (segAt l i).1 true m, l, n, w64 (i + 1), ())) else none else none else some (.inr (.inl (c, u, m, ())))
def e4S (c : C) (m : Mp) (last : Int) (all : List Eff5) (s : SegD) (f : Eff5) (e : Int) (l : List SegD) (n i : Int) (q : List Int) (k j : Int) : OE4 C :=
  let up (e : Int) : OE4 C := some (.inl (c, m, last, all, s, f, e, l, n, i, q, k, w64 (j + 1), ()))
  bif decide (j < k) then bif inRange j q.length then bif e != 0 then up e else bif decide (q.getD j.toNat 0 ≤ s.1) then up 14 else bif !(getL (q.getD j.toNat 0) false m) then up 7 else up e
  else none else some (.inr (.inl (c, m, last, all, s, f, e, l, n, i, ())))
def retE (s : SegD) (e : Int) : OE2 C := some (.inr (.inr ([], s.1, e, ())))
noncomputable def e2K (S4 : XE4 C → OE4 C) (c : C) (m : Mp) (all : List Eff5) (s : SegD) (f : Eff5) (l : List SegD) (n i : Int) (e : Int) : OE2 C :=
  match lim S4 (c, m, s.1, all, s, f, e, l, n, i, f.2.2.2.2, (f.2.2.2.2.length : Int), 0, ()) with
  | none => none
  | some (.inl z) => bif z.2.2.2.2.2.2.1 != 0 then some (.inr (.inr ([], z.2.2.2.2.1.1, z.2.2.2.2.2.2.1, ()))) else app (z.2.2.2.1 ++ [z.2.2.2.2.2.1]) fun A => some (.inl (z.1, z.2.1, z.2.2.1, A, z.2.2.2.2.2.2.2.1, z.2.2.2.2.2.2.2.2.1, w64 (z.2.2.2.2.2.2.2.2.2.1 + 1), ()))
  | some (.inr _) => none
noncomputable def e2S (g : GE) (chk : C → Eff5 → (Int → OE2 C) → OE2 C) (S4 : XE4 C → OE4 C) (c : C) (m : Mp) (last : Int) (all : List Eff5) (l : List SegD) (n i : Int) : OE2 C :=
  bif decide (i < n) then bif inRange i l.length then bif decide ((segAt l i).1 ≤ last) then retE (segAt l i) 2 else bif decide ((segAt l i).1 > 31) then retE (segAt l i) 2 else
    getQ (g.dOf (segAt l i).2) ((g.of (segAt l i).2).1, (g.of (segAt l i).2).2.1, (g.of (segAt l i).2).2.2, ()) fun y => bif y.2.2.1 == 0 then chk c y.1 (e2K S4 c m all (segAt l i) y.1 l n i) else e2K S4 c m all (segAt l i) y.1 l n i y.2.2.1
  else none else some (.inr (.inl (all, ())))
end
def chkK (g : GE) (c : Cap) (f : Eff5) (k : Int → OE2 Cap) : OE2 Cap :=
  askQ (g.dSafe f) (g.safe f) fun b => bif !b then k 15 else askQ (g.dWi f.1) (g.wi f.1 c.1 c.2.1) fun b => bif !b then k 3 else askQ (g.dWi f.2.1) (g.wi f.2.1 c.1 c.2.1) fun b => bif !b then k 3 else
    askQ (g.dCom f.2.1 c.2.2) (g.com f.2.1 c.2.2) fun l => bif decide ((l.length : Int) > 0) then k 15 else k 0
noncomputable def stE (g : GE) {n : Nat} {tr : Tr} (d : Nat) (lp : LoopT) (id : Nat) := stepT tt (callEa g) Try.f16.ntmps (hookT tt (callEa g) 100000 (eaL n tr) [] Try.f16.ntmps d) 100000 lp ((loopBody id ((Try.f16.body).getD .skip)).getD .skip)
noncomputable def SU0 (g : GE) : XE0 Cap → OE0 Cap := stE (n := 20) (tr := trCap) g 4 (ea0 20 trCap) 0
noncomputable def SU2 (g : GE) : XE2 Cap → OE2 Cap := stE (n := 20) (tr := trCap) g 4 (ea2 20 trCap) 2
noncomputable def SU4 (g : GE) : XE4 Cap → OE4 Cap := stE (n := 20) (tr := trCap) g 3 (ea4 20 trCap) 4
noncomputable def SW0 (g : GE) : XE0 Unit → OE0 Unit := stE (n := 17) (tr := .unit) g 4 (ea0 17 .unit) 0
noncomputable def SW2 (g : GE) : XE2 Unit → OE2 Unit := stE (n := 17) (tr := .unit) g 4 (ea2 17 .unit) 2
noncomputable def SW4 (g : GE) : XE4 Unit → OE4 Unit := stE (n := 17) (tr := .unit) g 3 (ea4 17 .unit) 4
theorem SU0_eq (g : GE) (c : Cap) (u : UnD) (m : Mp) (l : List SegD) (n i : Int) : SU0 g (c, u, m, l, n, i, ()) = e0S c u m l n i := by kernel_rfl
theorem SU4_eq (g : GE) (c : Cap) (m : Mp) (last : Int) (all : List Eff5) (s : SegD) (f : Eff5) (e : Int) (l : List SegD) (n i : Int) (q : List Int) (k j : Int) : SU4 g (c, m, last, all, s, f, e, l, n, i, q, k, j, ()) = e4S c m last all s f e l n i q k j := by kernel_rfl
theorem SW0_eq (g : GE) (c : Unit) (u : UnD) (m : Mp) (l : List SegD) (n i : Int) : SW0 g (c, u, m, l, n, i, ()) = e0S c u m l n i := by kernel_rfl
theorem SW4_eq (g : GE) (c : Unit) (m : Mp) (last : Int) (all : List Eff5) (s : SegD) (f : Eff5) (e : Int) (l : List SegD) (n i : Int) (q : List Int) (k j : Int) : SW4 g (c, m, last, all, s, f, e, l, n, i, q, k, j, ()) = e4S c m last all s f e l n i q k j := by kernel_rfl
theorem SW2_eq (g : GE) (c : Unit) (m : Mp) (last : Int) (all : List Eff5) (l : List SegD) (n i : Int) : SW2 g (c, m, last, all, l, n, i, ()) = e2S g (fun _ _ k => k 0) (SW4 g) c m last all l n i := by kernel_rfl
theorem SU2_eq (g : GE) (c : Cap) (m : Mp) (last : Int) (all : List Eff5) (l : List SegD) (n i : Int) : SU2 g (c, m, last, all, l, n, i, ()) = e2S g (chkK g) (SU4 g) c m last all l n i := by kernel_rfl
end Go.Pv.Sg
/-! ### each, Unit, Work by themselves: as the code says it. -/
namespace Go.Pv.Sg
open Go.Proofs
set_option maxRecDepth 1000000
abbrev OEa := Option (List Eff5 × Int × Int × Unit)
noncomputable def eachK {C : Type} (S0 : XE0 C → OE0 C) (S2 : XE2 C → OE2 C) (u : UnD) (c : C) : OEa :=
  match lim S0 (c, u, [], u.2.2, (u.2.2.length : Int), 0, ()) with
  | none => none
  | some (.inl y) => (match lim S2 (y.1, y.2.2.1, 0, [], y.2.1.2.2, (y.2.1.2.2.length : Int), 0, ()) with
    | none => none
    | some (.inl z) => some (z.1, 0, 0, ())
    | some (.inr z) => some (z.1, z.2.1, z.2.2.1, ()))
  | some (.inr _) => none
theorem e16u_eq (g : GE) (u : UnD) (c : Cap) : evalO Try.prog tt (callEa g) (eaL 20 trCap) [] 16 [Sl.agg 0 tUn, Sl.fn 1 20 trCap] rEa (u, c, ()) = eachK (SU0 g) (SU2 g) u c := by kernel_rfl
theorem e16w_eq (g : GE) (u : UnD) (c : Unit) : evalO Try.prog tt (callEa g) (eaL 17 .unit) [] 16 [Sl.agg 0 tUn, Sl.fn 1 17 .unit] rEa (u, c, ()) = eachK (SW0 g) (SW2 g) u c := by kernel_rfl
/-! ### Unit -/
@[reducible] def sUn4 : Sig := [.agg tUn, .val tI, .val tI, .val tIs]
@[reducible] def rII : TSh := [Sl.val 0 tI, Sl.val 1 tI]
@[reducible] def rIII : TSh := [Sl.val 0 tI, Sl.val 1 tI, Sl.val 2 tI]
abbrev OII := Option (Int × Int × Unit)
abbrev OIII := Option (Int × Int × Int × Unit)
def okII (a b : Int) : OII := some (a, b, ())
def okIII (a b c : Int) : OIII := some (a, b, c, ())
def specsU1 (e : UnD → Cap → OEa) (R : Type) (fn : FuncId) : Option (List V → Mem → Nat → (Eff → Option R) → Option R) :=
  match fn with
  | 16 => some (specO [Sl.agg 0 tUn, Sl.fn 1 20 trCap] rEa fun x => e x.1 x.2.1)
  | _ => none
noncomputable def callU1 (e : UnD → Cap → OEa) (R : Type) : CallE R := callsE Try.prog tt (specsU1 e R) 20
def pre9 (u : UnD) (a b : Int) (k : OII) : OII := bif (u.2.2.length : Int) == 0 then okII 0 2 else bif decide (a < 64) then okII 0 2 else bif decide (b > 2000) then okII 0 2 else bif decide (a > b) then okII 0 2 else k
theorem e9u_eq (e : UnD → Cap → OEa) (u : UnD) (a b : Int) (fx : List Int) : evalT Try.prog tt (callU1 e) [] [] 9 sUn4 rII (u, a, b, fx, ()) = pre9 u a b (match e u (a, b, fx) with
    | none => none
    | some y => okII y.2.1 y.2.2.1) := by kernel_rfl
/-! ### Work -/
def specsW1 (e : UnD → Unit → OEa) (R : Type) (fn : FuncId) : Option (List V → Mem → Nat → (Eff → Option R) → Option R) :=
  match fn with
  | 16 => some (specO [Sl.agg 0 tUn, Sl.fn 1 17 .unit] rEa fun x => e x.1 x.2.1)
  | _ => none
noncomputable def callW1 (e : UnD → Unit → OEa) (R : Type) : CallE R := callsE Try.prog tt (specsW1 e R) 20
def wk0 : LoopT := ⟨0, [Sl.box 1 (.dat tUn), Sl.val 3 tI, Sl.row 5 tEff, Sl.mp 7 .i64 tI, Sl.val 8 tI], [Sl.box 1 (.dat tUn), Sl.val 3 tI, Sl.mp 7 .i64 tI], []⟩
def wk2 : LoopT := ⟨2, [Sl.box 1 (.dat tUn), Sl.val 3 tI, Sl.row 5 tEff, Sl.mp 7 .i64 tI, Sl.val 8 tI, Sl.val 9 tI, Sl.val 37 tIs, Sl.val 38 tI, Sl.val 39 tI], [Sl.box 1 (.dat tUn), Sl.val 3 tI, Sl.row 5 tEff, Sl.mp 7 .i64 tI, Sl.val 8 tI, Sl.val 9 tI], []⟩
abbrev MpI := List (Int × Int)
abbrev XK0 := UnD × Int × List Eff5 × MpI × Int × Unit
abbrev YK0 := UnD × Int × MpI × Unit
abbrev OK0 := Option (XK0 ⊕ (YK0 ⊕ Unit))
abbrev XK2 := UnD × Int × List Eff5 × MpI × Int × Int × List Int × Int × Int × Unit
abbrev YK2 := UnD × Int × List Eff5 × MpI × Int × Int × Unit
abbrev OK2 := Option (XK2 ⊕ (YK2 ⊕ Unit))
noncomputable def SK2 (e : UnD → Unit → OEa) : XK2 → OK2 := stepT tt (callW1 e) Try.f7.ntmps (hookT tt (callW1 e) 100000 [wk0, wk2] [] Try.f7.ntmps 3) 100000 wk2 ((loopBody 2 ((Try.f7.body).getD .skip)).getD .skip)
noncomputable def SK0 (e : UnD → Unit → OEa) : XK0 → OK0 := stepT tt (callW1 e) Try.f7.ntmps (hookT tt (callW1 e) 100000 [wk0, wk2] [] Try.f7.ntmps 4) 100000 wk0 ((loopBody 0 ((Try.f7.body).getD .skip)).getD .skip)
def mx (a b : Int) : Int := if b > a then b else a
def effZ0 : Eff5 := ([], [], 0, 0, [])
def effAt (l : List Eff5) (i : Int) : Eff5 := l.getD i.toNat effZ0
theorem SK2_eq (e : UnD → Unit → OEa) (u : UnD) (lo : Int) (all : List Eff5) (m : MpI) (i r : Int) (q : List Int) (n j : Int) : SK2 e (u, lo, all, m, i, r, q, n, j, ()) =
    bif decide (j < n) then bif inRange j q.length then some (.inl (u, lo, all, m, i, mx r (getL (q.getD j.toNat 0) 0 m), q, n, w64 (j + 1), ())) else none else some (.inr (.inl (u, lo, all, m, i, r, ()))) := by kernel_rfl
def k0S (u : UnD) (lo : Int) (all : List Eff5) (m : MpI) (i r : Int) : OK0 :=
  bif inRange i u.2.2.length then bif inRange i all.length then bif wfI (segAt u.2.2 i).1 then bif inRange i all.length then
    some (.inl (u, mx lo (effAt all i).2.2.1, all, putL (segAt u.2.2 i).1 (w64 ((effAt all i).2.2.1 + r)) m, w64 (i - 1), ())) else none else none else none else none
theorem SK0_eq (e : UnD → Unit → OEa) (u : UnD) (lo : Int) (all : List Eff5) (m : MpI) (i : Int) : SK0 e (u, lo, all, m, i, ()) =
    bif decide (i ≥ 0) then bif inRange i all.length then (match lim (SK2 e) (u, lo, all, m, i, 0, (effAt all i).2.2.2.2, ((effAt all i).2.2.2.2.length : Int), 0, ()) with
      | none => none
      | some (.inl z) => k0S z.1 z.2.1 z.2.2.1 z.2.2.2.1 z.2.2.2.2.1 z.2.2.2.2.2.1
      | some (.inr _) => some (.inr (.inr ()))) else none else some (.inr (.inl (u, lo, m, ()))) := by kernel_rfl
theorem e7u_eq (e : UnD → Unit → OEa) (u : UnD) : evalT Try.prog tt (callW1 e) [wk0, wk2] [] 7 [.agg tUn] rIII (u, ()) =
    bif (u.2.2.length : Int) == 0 then okIII 0 0 2 else match e u () with
    | none => none
    | some y => bif y.2.2.1 != 0 then okIII 0 0 y.2.2.1 else match lim (SK0 e) (u, 0, y.1, [], w64 ((y.1.length : Int) - 1), ()) with
      | none => none
      | some (.inl z) => bif inRange 0 z.1.2.2.length then okIII (getL (segAt z.1.2.2 0).1 0 z.2.2.1) z.2.1 0 else none
      | some (.inr _) => none := by kernel_rfl
/-! ### The reference's Unit -/
structure GRf where
  of : List Int → Eff5 × Int × Int
  dOf : List Int → Bool
  chk : List Int → Int
  num : UnD → Int → Option (Int × Unit)
  reg : Eff5 → Int → Int → List Int → Option (Int × Unit)
  nxt : UnD → Int → Eff5 → Option (Int × Unit)
def specsRf (g : GRf) (R : Type) (fn : FuncId) : Option (List V → Mem → Nat → (Eff → Option R) → Option R) :=
  match fn with
  | 8 => some (specL sC1 rOf fun x => bif g.dOf x.1 then some ((g.of x.1).1, (g.of x.1).2.1, (g.of x.1).2.2, ()) else none)
  | 25 => some (specL sC1 rI1 fun x => bif g.dOf x.1 then some (g.chk x.1, ()) else none)
  | 24 => some (specL sUI rI1 fun x => g.num x.1 x.2.1)
  | 26 => some (specL sEIIL rI1 fun x => g.reg x.1 x.2.1 x.2.2.1 x.2.2.2.1)
  | 27 => some (specL sUIE rI1 fun x => g.nxt x.1 x.2.1 x.2.2.1)
  | _ => none
noncomputable def callRf (g : GRf) (R : Type) : CallE R := callsE Try.prog tt (specsRf g R) 20
def tk {α β : Type} (o : Option (α × Unit)) (k : α → Option β) : Option β := match o with
  | none => none
  | some y => k y.1
def ru0 : LoopT := ⟨0, [Sl.val 1 tI, Sl.val 2 tI, Sl.val 3 tIs, Sl.box 4 (.dat tUn), Sl.val 10 tI], [], [Sl.val 8 tI, Sl.val 9 tI]⟩
abbrev XR0 := Int × Int × List Int × UnD × Int × Unit
abbrev OR0 := Option (XR0 ⊕ (Unit ⊕ (Int × Int × Unit)))
noncomputable def SR0 (g : GRf) : XR0 → OR0 := stepT tt (callRf g) Try.f10.ntmps (hookT tt (callRf g) 100000 [ru0] [] Try.f10.ntmps 4) 100000 ru0 ((loopBody 0 ((Try.f10.body).getD .skip)).getD .skip)
def rfOf {β : Type} (g : GRf) (c : List Int) (k : Eff5 → Int → Option β) : Option β := getQ (g.dOf c) ((g.of c).1, (g.of c).2.1, (g.of c).2.2, ()) fun y => k y.1 y.2.2.1
def ru4 (a b : Int) (fx : List Int) (u : UnD) (i e : Int) : OR0 := bif e != 0 then bif inRange i u.2.2.length then some (.inr (.inr ((segAt u.2.2 i).1, e, ()))) else none else some (.inl (a, b, fx, u, w64 (i + 1), ()))
def ru3 (g : GRf) (a b : Int) (fx : List Int) (u : UnD) (i : Int) (f : Eff5) (e : Int) : OR0 := bif e == 0 then tk (g.nxt u i f) (ru4 a b fx u i) else ru4 a b fx u i e
def ru2 (g : GRf) (a b : Int) (fx : List Int) (u : UnD) (i : Int) (e : Int) : OR0 := bif inRange i u.2.2.length then rfOf g (segAt u.2.2 i).2 fun f _ => bif e == 0 then tk (g.reg f a b fx) (ru3 g a b fx u i f) else ru3 g a b fx u i f e else none
def ru1 (g : GRf) (a b : Int) (fx : List Int) (u : UnD) (i : Int) (e : Int) : OR0 := bif e == 0 then bif inRange i u.2.2.length then askQ (g.dOf (segAt u.2.2 i).2) (g.chk (segAt u.2.2 i).2) (ru2 g a b fx u i) else none else ru2 g a b fx u i e
theorem SR0_eq (g : GRf) (a b : Int) (fx : List Int) (u : UnD) (i : Int) : SR0 g (a, b, fx, u, i, ()) =
    bif decide (i < (u.2.2.length : Int)) then tk (g.num u i) (ru1 g a b fx u i) else some (.inr (.inl ())) := by kernel_rfl
theorem e10u_eq (g : GRf) (u : UnD) (a b : Int) (fx : List Int) : evalT Try.prog tt (callRf g) [ru0] [] 10 sUn4 rII (u, a, b, fx, ()) = pre9 u a b (match lim (SR0 g) (a, b, fx, u, 0, ()) with
    | none => none
    | some (.inl _) => okII 0 0
    | some (.inr y) => okII y.1 y.2.1) := by kernel_rfl
/-! ### The reference's Work -/
@[reducible] def tAr : Ty := Ty.arr 32 tI
def rw0 : LoopT := ⟨0, [Sl.box 1 (.dat tUn), Sl.val 5 tI, Sl.row 6 tEff, Sl.val 7 tI], [Sl.box 1 (.dat tUn), Sl.val 5 tI, Sl.row 6 tEff], [Sl.val 2 tI, Sl.val 3 tI, Sl.val 4 tI]⟩
def rw2 : LoopT := ⟨2, [Sl.box 1 (.dat tUn), Sl.val 5 tI, Sl.row 6 tEff, Sl.box 12 (.dat tAr), Sl.val 13 tI], [Sl.box 1 (.dat tUn), Sl.val 5 tI, Sl.box 12 (.dat tAr)], []⟩
def rw4 : LoopT := ⟨4, [Sl.box 1 (.dat tUn), Sl.val 5 tI, Sl.row 6 tEff, Sl.box 12 (.dat tAr), Sl.val 13 tI, Sl.val 14 tI, Sl.val 15 tI], [Sl.box 1 (.dat tUn), Sl.val 5 tI, Sl.row 6 tEff, Sl.box 12 (.dat tAr), Sl.val 13 tI, Sl.val 14 tI], []⟩
abbrev Arr := Ty.den tAr
abbrev XW0 := UnD × Int × List Eff5 × Int × Unit
abbrev YW0 := UnD × Int × List Eff5 × Unit
abbrev OW0 := Option (XW0 ⊕ (YW0 ⊕ (Int × Int × Int × Unit)))
abbrev XW2 := UnD × Int × List Eff5 × Arr × Int × Unit
abbrev YW2 := UnD × Int × Arr × Unit
abbrev OW2 := Option (XW2 ⊕ (YW2 ⊕ Unit))
abbrev XW4 := UnD × Int × List Eff5 × Arr × Int × Int × Int × Unit
abbrev YW4 := UnD × Int × List Eff5 × Arr × Int × Int × Unit
abbrev OW4 := Option (XW4 ⊕ (YW4 ⊕ Unit))
noncomputable def stW (g : GRf) (d : Nat) (lp : LoopT) (id : Nat) := stepT tt (callRf g) Try.f11.ntmps (hookT tt (callRf g) 100000 [rw0, rw2, rw4] [] Try.f11.ntmps d) 100000 lp ((loopBody id ((Try.f11.body).getD .skip)).getD .skip)
noncomputable def SV0 (g : GRf) : XW0 → OW0 := stW g 4 rw0 0
noncomputable def SV2 (g : GRf) : XW2 → OW2 := stW g 4 rw2 2
noncomputable def SV4 (g : GRf) : XW4 → OW4 := stW g 3 rw4 4
def rv3 (u : UnD) (lo : Int) (all : List Eff5) (i : Int) (f : Eff5) (e : Int) : OW0 := bif e != 0 then some (.inr (.inr (0, 0, e, ()))) else app (all ++ [f]) fun A => some (.inl (u, mx lo f.2.2.1, A, w64 (i + 1), ()))
def rv2 (g : GRf) (u : UnD) (lo : Int) (all : List Eff5) (i : Int) (f : Eff5) (e : Int) : OW0 := bif e == 0 then tk (g.nxt u i f) (rv3 u lo all i f) else rv3 u lo all i f e
def rv1 (g : GRf) (u : UnD) (lo : Int) (all : List Eff5) (i : Int) (e : Int) : OW0 := bif inRange i u.2.2.length then rfOf g (segAt u.2.2 i).2 fun f h => bif e == 0 then rv2 g u lo all i f h else rv2 g u lo all i f e else none
theorem SV0_eq (g : GRf) (u : UnD) (lo : Int) (all : List Eff5) (i : Int) : SV0 g (u, lo, all, i, ()) =
    bif decide (i < (u.2.2.length : Int)) then tk (g.num u i) (rv1 g u lo all i) else some (.inr (.inl (u, lo, all, ()))) := by kernel_rfl
/-- the array -/
def arrG (a : Arr) (i : Nat) : Int := match V.at i (enc tAr a) with
  | .int _ n => n
  | _ => 0
def arrZ : Arr := tAr.dflt
def arrS (a : Arr) (i : Nat) (v : Int) : Arr := match dec tAr (setPick (enc tAr a) 0 1 32 i 0 [.int .i64 v]) with
  | some (y, _) => y
  | none => a
def rv4 (u : UnD) (lo : Int) (all : List Eff5) (a : Arr) (i r : Int) (q : List Int) (j : Int) : OW4 := bif decide (j < (q.length : Int)) then bif inRange i all.length then bif inRange j q.length then bif inRange (q.getD j.toNat 0) 32 then
  some (.inl (u, lo, all, a, i, mx r (arrG a (q.getD j.toNat 0).toNat), w64 (j + 1), ())) else none else none else none else some (.inr (.inl (u, lo, all, a, i, r, ())))
theorem SV4_eq (g : GRf) (u : UnD) (lo : Int) (all : List Eff5) (a : Arr) (i r j : Int) : SV4 g (u, lo, all, a, i, r, j, ()) = bif inRange i all.length then rv4 u lo all a i r (effAt all i).2.2.2.2 j else none := by kernel_rfl
def rv5 (u : UnD) (lo : Int) (all : List Eff5) (a : Arr) (i r : Int) : OW2 := bif inRange i u.2.2.length then bif inRange i all.length then bif inRange (segAt u.2.2 i).1 32 then
  some (.inl (u, lo, all, arrS a (segAt u.2.2 i).1.toNat (w64 ((effAt all i).2.2.1 + r)), w64 (i - 1), ())) else none else none else none
theorem SV2_eq (g : GRf) (u : UnD) (lo : Int) (all : List Eff5) (a : Arr) (i : Int) : SV2 g (u, lo, all, a, i, ()) = bif decide (i ≥ 0) then (match lim (SV4 g) (u, lo, all, a, i, 0, 0, ()) with
    | none => none
    | some (.inl z) => rv5 z.1 z.2.1 z.2.2.1 z.2.2.2.1 z.2.2.2.2.1 z.2.2.2.2.2.1
    | some (.inr _) => some (.inr (.inr ()))) else some (.inr (.inl (u, lo, a, ()))) := by kernel_rfl
theorem e11u_eq (g : GRf) (u : UnD) : evalT Try.prog tt (callRf g) [rw0, rw2, rw4] [] 11 [.agg tUn] rIII (u, ()) =
    bif (u.2.2.length : Int) == 0 then okIII 0 0 2 else match lim (SV0 g) (u, 0, [], 0, ()) with
    | none => none
    | some (.inl y) => (match lim (SV2 g) (y.1, y.2.1, y.2.2.1, arrZ, w64 ((y.2.2.1.length : Int) - 1), ()) with
      | none => none
      | some (.inl z) => bif inRange 0 z.1.2.2.length then bif inRange (segAt z.1.2.2 0).1 32 then okIII (arrG z.2.2.1 (segAt z.1.2.2 0).1.toNat) z.2.1 0 else none else none
      | some (.inr _) => none)
    | some (.inr y) => okIII y.1 y.2.1 y.2.2.1 := by kernel_rfl
end Go.Pv.Sg
/-! ### The laws EffectUnit and EffectPath: as the code says it. -/
namespace Go.Pv.Sg
open Go.Proofs
set_option maxRecDepth 1000000
structure GQ where
  un : PgD → UnD
  dUn : PgD → Bool
  u9 : UnD → Int → Int → List Int → OII
  u10 : UnD → Int → Int → List Int → OII
  w7 : UnD → OIII
  w11 : UnD → OIII
  of : List Int → Eff5 × Int × Int
  dOf : List Int → Bool
def specsQ (g : GQ) (R : Type) (fn : FuncId) : Option (List V → Mem → Nat → (Eff → Option R) → Option R) :=
  match fn with
  | 5 => some (specL [] rB1 fun _ => some (true, ()))
  | 6 => some (specT sPg rUn fun x => bif g.dUn x.1 then some (g.un x.1, ()) else none)
  | 7 => some (specL [.agg tUn] rIII fun x => g.w7 x.1)
  | 8 => some (specL sC1 rOf fun x => bif g.dOf x.1 then some ((g.of x.1).1, (g.of x.1).2.1, (g.of x.1).2.2, ()) else none)
  | 9 => some (specL sUn4 rII fun x => g.u9 x.1 x.2.1 x.2.2.1 x.2.2.2.1)
  | 10 => some (specL sUn4 rII fun x => g.u10 x.1 x.2.1 x.2.2.1 x.2.2.2.1)
  | 11 => some (specL [.agg tUn] rIII fun x => g.w11 x.1)
  | _ => none
noncomputable def callQ (g : GQ) (R : Type) : CallE R := callsE Try.prog tt (specsQ g R) 20
abbrev OBl := Option (Bool × Unit)
def tk2 {α β γ : Type} (o : Option (α × β)) (k : α → β → Option γ) : Option γ := match o with
  | none => none
  | some y => k y.1 y.2
def unQ {β : Type} (g : GQ) (p : PgD) (k : UnD → Option β) : Option β := askQ (g.dUn p) (g.un p) k
theorem e4_eq (g : GQ) (p : PgD) : evalT Try.prog tt (callQ g) [] [] 4 sPg rB1 (p, ()) =
    bif decide ((p.2.1.length : Int) > 40) then okB true else
    unQ g p fun u => tk2 (g.u9 u p.2.2.1 p.2.2.2.1 p.2.2.2.2) fun n1 e1 => unQ g p fun u => tk2 (g.u10 u p.2.2.1 p.2.2.2.1 p.2.2.2.2) fun n2 e2 =>
      unQ g p fun u => tk2 (g.w7 u) fun a1 r1 => unQ g p fun u => tk2 (g.w11 u) fun a2 r2 =>
        andQ (n1 == n2) (andQ (e1.1 == e2.1) (andQ (a1 == a2) (andQ (r1.1 == r2.1) (andQ (r1.2.1 == r2.2.1) (okB true))))) := by kernel_rfl
/-! ### EffectPath -/
@[reducible] def tBs : Ty := .slice .bool
@[reducible] def sPa : Sig := [.agg tPg, .val tBs]
def pa0 : LoopT := ⟨0, [Sl.val 1 tBs, Sl.fbox 5 tUn, Sl.val 6 tI, Sl.val 7 tI, Sl.val 9 tI, Sl.val 10 tI, Sl.val 11 tI], [], [Sl.val 4 .bool]⟩
def pa2 : LoopT := ⟨2, [Sl.val 1 tBs, Sl.box 5 (.dat tUn), Sl.val 6 tI, Sl.val 7 tI, Sl.val 9 tI, Sl.val 10 tI, Sl.val 11 tI, Sl.fval 12 tIs, Sl.val 13 .bool, Sl.val 14 tI],
  [Sl.val 1 tBs, Sl.box 5 (.dat tUn), Sl.val 6 tI, Sl.val 7 tI, Sl.val 9 tI, Sl.val 10 tI, Sl.val 11 tI, Sl.val 12 tIs, Sl.val 13 .bool], [Sl.val 4 .bool]⟩
abbrev XP0 := List Bool × UnD × Int × Int × Int × Int × Int × Unit
abbrev OP0 := Option (XP0 ⊕ (Unit ⊕ (Bool × Unit)))
abbrev XP2 := List Bool × UnD × Int × Int × Int × Int × Int × List Int × Bool × Int × Unit
abbrev YP2 := List Bool × UnD × Int × Int × Int × Int × Int × List Int × Bool × Unit
abbrev OP2 := Option (XP2 ⊕ (YP2 ⊕ (Bool × Unit)))
noncomputable def stP (g : GQ) (d : Nat) (lp : LoopT) (id : Nat) := stepT tt (callQ g) Try.f3.ntmps (hookT tt (callQ g) 100000 [pa0, pa2] [] Try.f3.ntmps d) 100000 lp ((loopBody id ((Try.f3.body).getD .skip)).getD .skip)
noncomputable def SP0 (g : GQ) : XP0 → OP0 := stP g 4 pa0 0
noncomputable def SP2 (g : GQ) : XP2 → OP2 := stP g 3 pa2 2
def ofK {β : Type} (g : GQ) (c : List Int) (k : Eff5 → Int → Option β) : Option β := getQ (g.dOf c) ((g.of c).1, (g.of c).2.1, (g.of c).2.2, ()) fun y => k y.1 y.2.2.1
theorem SP2_eq (g : GQ) (ch : List Bool) (u : UnD) (most lo tot now k : Int) (q : List Int) (fd : Bool) (i : Int) : SP2 g (ch, u, most, lo, tot, now, k, q, fd, i, ()) =
    bif decide (i < (u.2.2.length : Int)) then bif inRange i u.2.2.length then bif (segAt u.2.2 i).1 == now then bif inRange i u.2.2.length then ofK g (segAt u.2.2 i).2 fun f e =>
      bif e != 0 then some (.inr (.inr (false, ()))) else bif decide (f.2.2.1 > lo) then some (.inr (.inr (false, ()))) else some (.inl (ch, u, most, lo, w64 (tot + f.2.2.1), now, k, f.2.2.2.2, true, w64 (i + 1), ())) else none
      else some (.inl (ch, u, most, lo, tot, now, k, q, fd, w64 (i + 1), ())) else none else some (.inr (.inl (ch, u, most, lo, tot, now, k, q, fd, ()))) := by kernel_rfl
def pa3 (z : YP2) : OP0 :=
  let q := z.2.2.2.2.2.2.2.1
  let up (now : Int) : OP0 := some (.inl (z.1, z.2.1, z.2.2.1, z.2.2.2.1, z.2.2.2.2.1, now, w64 (z.2.2.2.2.2.2.1 + 1), ()))
  bif !z.2.2.2.2.2.2.2.2.1 then some (.inr (.inr (false, ()))) else bif decide (z.2.2.2.2.1 > z.2.2.1) then some (.inr (.inr (false, ()))) else bif (q.length : Int) == 0 then some (.inr (.inr (true, ()))) else
    bif inRange 0 q.length then bif decide (z.2.2.2.2.2.2.1 < (z.1.length : Int)) then bif inRange z.2.2.2.2.2.2.1 z.1.length then bif z.1.getD z.2.2.2.2.2.2.1.toNat false then
      (bif inRange (w64 ((q.length : Int) - 1)) q.length then up (q.getD (w64 ((q.length : Int) - 1)).toNat 0) else none) else up (q.getD (0 : Int).toNat 0) else none else up (q.getD (0 : Int).toNat 0) else none
theorem SP0_eq (g : GQ) (ch : List Bool) (u : UnD) (most lo tot now k : Int) : SP0 g (ch, u, most, lo, tot, now, k, ()) =
    bif decide (k ≤ 31) then (match lim (SP2 g) (ch, u, most, lo, tot, now, k, [], false, 0, ()) with
      | none => none
      | some (.inl z) => pa3 z
      | some (.inr y) => some (.inr (.inr (y.1, ())))) else some (.inr (.inl ())) := by kernel_rfl
theorem e3_eq (g : GQ) (p : PgD) (ch : List Bool) : evalT Try.prog tt (callQ g) [pa0, pa2] [] 3 sPa rB1 (p, ch, ()) =
    bif decide ((p.2.1.length : Int) > 40) then okB true else
    unQ g p fun u => tk2 (g.w7 u) fun most r =>
      let bad := andQ (r.2.1 != 0) (andQ (most == 0) (andQ (r.1 == 0) (okB true)))
      bif r.2.1 != 0 then bad else bif (u.2.2.length : Int) == 0 then bad else bif inRange 0 u.2.2.length then (match lim (SP0 g) (ch, u, most, r.1, 0, (segAt u.2.2 0).1, 0, ()) with
        | none => none
        | some (.inl _) => okB false
        | some (.inr z) => okB z.1) else none := by kernel_rfl
end Go.Pv.Sg
/-! ### A program of segments, on plain data: its check, its work. -/
namespace Go.Nv
/-- number, code -/
abbrev Seg := Int × List Int
/-- number, effect -/
abbrev SE := Int × Eff
def nextC (ks : List Int) (n : Int) : List Int → Int
  | [] => 0
  | k :: r => if k ≤ n then 14 else if k ∈ ks then nextC ks n r else 7
section
variable (of : List Int → Eff × Int × Int) (chk : Eff → Int) (ks : List Int)
def segE (s : Seg) : Int := if (of s.2).2.2 ≠ 0 then (of s.2).2.2 else if chk (of s.2).1 ≠ 0 then chk (of s.2).1 else nextC ks s.1 (of s.2).1.2.2.2.2
/-- number and error of the first segment that is not in order -/
def eachE : Int → List Seg → Int × Int
  | _, [] => (0, 0)
  | last, s :: r => if s.1 ≤ last ∨ s.1 > 31 then (s.1, 2) else if segE of chk ks s ≠ 0 then (s.1, segE of chk ks s) else eachE s.1 r
def effs (l : List Seg) : List SE := l.map fun s => (s.1, (of s.2).1)
end
def allIn (a b : Int) (l : List Int) : Bool := l.all fun y => decide (a ≤ y) && decide (y < b)
def chkU (a b : Int) (fixed : List Int) (f : Eff) : Int := if safeP f = false then 15 else if allIn a b f.1 = false ∨ allIn a b f.2.1 = false then 3 else if (common f.2.1 fixed).length ≠ 0 then 15 else 0
/-- the greatest of some values -/
def rest (g : Int → Int) (l : List Int) : Int := l.foldl (fun a k => max a (g k)) 0
/-- the most steps from a number on -/
def mostF : List SE → Int → Int
  | [], _ => 0
  | s :: r, k => if k = s.1 then s.2.2.2.1 + rest (mostF r) s.2.2.2.2.2 else mostF r k
def longF : List SE → Int
  | [] => 0
  | s :: r => max s.2.2.2.1 (longF r)
def unitP (of : List Int → Eff × Int × Int) (l : List Seg) (a b : Int) (fixed : List Int) : Int × Int :=
  if l.length = 0 ∨ a < 64 ∨ b > 2000 ∨ a > b then (0, 2) else eachE of (chkU a b fixed) (l.map (·.1)) 0 l
def workP (of : List Int → Eff × Int × Int) (l : List Seg) : Int × Int × Int :=
  if l.length = 0 then (0, 0, 2) else if (eachE of (fun _ => 0) (l.map (·.1)) 0 l).2 ≠ 0 then (0, 0, (eachE of (fun _ => 0) (l.map (·.1)) 0 l).2) else
  (mostF (effs of l) (l.headD (0, [])).1, longF (effs of l), 0)
/-! ### What holds of a program in order -/
def OkSegs (of : List Int → Eff × Int × Int) (ks : List Int) : Int → List Seg → Prop
  | _, [] => True
  | last, s :: r => last < s.1 ∧ s.1 ≤ 31 ∧ (of s.2).2.2 = 0 ∧ (∀ k ∈ (of s.2).1.2.2.2.2, s.1 < k ∧ k ∈ ks) ∧ OkSegs of ks s.1 r
theorem nextC_ok {ks : List Int} {n : Int} : ∀ {l : List Int}, nextC ks n l = 0 → ∀ k ∈ l, n < k ∧ k ∈ ks
  | [], _, k, hk => by cases hk
  | x :: r, h, k, hk => by
    simp only [nextC] at h
    split at h
    · omega
    · rename_i h1
      split at h
      · rename_i h2
        rcases List.mem_cons.1 hk with rfl | hk
        · exact ⟨by omega, h2⟩
        · exact nextC_ok h k hk
      · omega
theorem eachE_ok {of : List Int → Eff × Int × Int} {chk : Eff → Int} {ks : List Int} : ∀ {l : List Seg} {last : Int}, (eachE of chk ks last l).2 = 0 → OkSegs of ks last l
  | [], _, _ => trivial
  | s :: r, last, h => by
    simp only [eachE] at h
    split at h
    · simp at h
    · rename_i h1
      split at h
      · rename_i h2; exact absurd h h2
      · rename_i h2
        have h3 : segE of chk ks s = 0 := by simpa using h2
        unfold segE at h3
        split at h3
        · rename_i h4; exact absurd h3 h4
        · rename_i h4
          split at h3
          · rename_i h5; exact absurd h3 h5
          · exact ⟨by omega, by omega, by simpa using h4, nextC_ok h3, eachE_ok h⟩
theorem rest_init (g : Int → Int) : ∀ (l : List Int) (a : Int), a ≤ l.foldl (fun a k => max a (g k)) a
  | [], _ => Int.le_refl _
  | k :: r, a => by
    have := rest_init g r (max a (g k))
    simp only [List.foldl_cons]; omega
theorem rest_ge0 (g : Int → Int) (l : List Int) : 0 ≤ rest g l := rest_init g l 0
theorem rest_mem (g : Int → Int) {k : Int} : ∀ (l : List Int) (a : Int), k ∈ l → g k ≤ l.foldl (fun a k => max a (g k)) a
  | [], _, h => by cases h
  | x :: r, a, h => by
    simp only [List.foldl_cons]
    rcases List.mem_cons.1 h with rfl | h
    · have := rest_init g r (max a (g k)); omega
    · exact rest_mem g r _ h
theorem rest_le (g : Int → Int) {m : Int} (hg : ∀ k, g k ≤ m) : ∀ (l : List Int) (a : Int), a ≤ m → l.foldl (fun a k => max a (g k)) a ≤ m
  | [], _, h => h
  | x :: r, a, h => by
    simp only [List.foldl_cons]
    have := hg x
    exact rest_le g hg r _ (by omega)
theorem rest_congr {g h : Int → Int} {l : List Int} (e : ∀ k ∈ l, g k = h k) : ∀ a : Int, l.foldl (fun a k => max a (g k)) a = l.foldl (fun a k => max a (h k)) a := by
  induction l with
  | nil => intro a; rfl
  | cons x r ih =>
    intro a
    simp only [List.foldl_cons]
    rw [e x (by simp), ih fun k hk => e k (by simp [hk])]
theorem mostF_ge0 : ∀ {l : List SE} (_ : ∀ s ∈ l, 0 ≤ s.2.2.2.1) (k : Int), 0 ≤ mostF l k
  | [], _, _ => Int.le_refl _
  | s :: r, h, k => by
    simp only [mostF]
    split
    · have := rest_ge0 (mostF r) s.2.2.2.2.2
      have := h s (by simp)
      omega
    · exact mostF_ge0 (fun s hs => h s (by simp [hs])) k
theorem mostF_le {c : Int} (hc : 0 ≤ c) : ∀ {l : List SE} (_ : ∀ s ∈ l, s.2.2.2.1 ≤ c) (k : Int), mostF l k ≤ c * l.length
  | [], _, _ => by simp [mostF]
  | s :: r, h, k => by
    have ih : ∀ k, mostF r k ≤ c * r.length := mostF_le hc fun s hs => h s (by simp [hs])
    have hn : (0 : Int) ≤ c * r.length := Int.mul_nonneg hc (by omega)
    have e : c * ((s :: r).length : Int) = c * r.length + c := by simp only [List.length_cons, Int.natCast_add]; rw [Int.mul_add]; simp
    rw [e]
    simp only [mostF]
    split
    · have h1 : rest (mostF r) s.2.2.2.2.2 ≤ c * r.length := rest_le _ ih _ _ hn
      have := h s (by simp)
      omega
    · have := ih k; omega
theorem longF_mem : ∀ {l : List SE} {s : SE}, s ∈ l → s.2.2.2.1 ≤ longF l
  | [], _, h => by cases h
  | x :: r, s, h => by
    simp only [longF]
    rcases List.mem_cons.1 h with rfl | h
    · omega
    · have := longF_mem h; omega
theorem longF_ge0 : ∀ l : List SE, 0 ≤ longF l
  | [] => Int.le_refl _
  | s :: r => by have := longF_ge0 r; simp only [longF]; omega
/-- numbers ascend -/
theorem OkSegs.gt {of : List Int → Eff × Int × Int} {ks : List Int} : ∀ {l : List Seg} {last : Int}, OkSegs of ks last l → ∀ s ∈ l, last < s.1 ∧ s.1 ≤ 31 ∧ (of s.2).2.2 = 0 ∧ ∀ k ∈ (of s.2).1.2.2.2.2, s.1 < k ∧ k ∈ ks
  | [], _, _, s, hs => by cases hs
  | x :: r, last, h, s, hs => by
    obtain ⟨h1, h2, h3, h4, h5⟩ := h
    rcases List.mem_cons.1 hs with rfl | hs
    · exact ⟨h1, h2, h3, h4⟩
    · obtain ⟨a, b, c, d⟩ := OkSegs.gt h5 s hs
      exact ⟨by omega, b, c, d⟩
theorem OkSegs.asc {of : List Int → Eff × Int × Int} {ks : List Int} : ∀ {l : List Seg} {last : Int}, OkSegs of ks last l → l.Pairwise fun a b => a.1 < b.1
  | [], _, _ => List.Pairwise.nil
  | x :: r, last, h => by
    obtain ⟨h1, h2, h3, h4, h5⟩ := h
    exact List.pairwise_cons.2 ⟨fun s hs => (h5.gt s hs).1, h5.asc⟩
/-- what follows a segment has fewer steps -/
theorem most_step {of : List Int → Eff × Int × Int} {ks : List Int} : ∀ {l : List Seg} {last : Int}, OkSegs of ks last l → ∀ s ∈ l,
    (∀ k ∈ (of s.2).1.2.2.2.2, (of s.2).1.2.2.1 + mostF (effs of l) k ≤ mostF (effs of l) s.1) ∧ (of s.2).1.2.2.1 ≤ mostF (effs of l) s.1
  | [], _, _, s, hs => by cases hs
  | x :: r, last, h, s, hs => by
    obtain ⟨h1, h2, h3, h4, h5⟩ := h
    have e : ∀ k, mostF (effs of (x :: r)) k = if k = x.1 then (of x.2).1.2.2.1 + rest (mostF (effs of r)) (of x.2).1.2.2.2.2 else mostF (effs of r) k := fun k => rfl
    rcases List.mem_cons.1 hs with rfl | hs
    · rw [e, if_pos rfl]
      have := rest_ge0 (mostF (effs of r)) (of s.2).1.2.2.2.2
      refine ⟨fun k hk => ?_, by omega⟩
      have hk1 := (h4 k hk).1
      rw [e, if_neg (by omega)]
      have : mostF (effs of r) k ≤ rest (mostF (effs of r)) (of s.2).1.2.2.2.2 := rest_mem _ _ _ hk
      omega
    · have hx := (h5.gt s hs).1
      obtain ⟨a, b⟩ := most_step h5 s hs
      rw [e, if_neg (by omega)]
      refine ⟨fun k hk => ?_, b⟩
      have hk1 := ((h5.gt s hs).2.2.2 k hk).1
      rw [e, if_neg (by omega)]
      exact a k hk
end Go.Nv
/-! ### within, number, has, next, region, unit: what they compute. -/
namespace Go.Pv.Sg
open Go.Proofs
set_option maxRecDepth 1000000
noncomputable abbrev OF : List Int → Eff5 × Int × Int := Nv.ofP decP
/-- an effect that Of may return, with its order and its steps -/
structure Fine2 (f : Nv.Eff) : Prop where
  base : Fine f
  rasc : f.1.Pairwise (· < ·)
  wasc : f.2.1.Pairwise (· < ·)
  st : 0 ≤ f.2.2.1 ∧ f.2.2.1 ≤ 3000
theorem Fine2.zero : Fine2 Nv.eff0 := ⟨Fine.zero, List.Pairwise.nil, List.Pairwise.nil, Int.le_refl _, by decide⟩
theorem ofE_fine2 {code : List Int} : ∀ (n : Nat) (at_ : Int) (x : Nv.ESt) (c : Nat), c + n ≤ 2000 → Nv.Good c x → Fine2 (Nv.ofE decP code n x at_).1
  | 0, _, _, _, _, _ => Fine2.zero
  | n + 1, at_, x, c, h, hx => by
    have hbase := ofE_fine (code := code) (n + 1) at_ x c h hx
    unfold Nv.ofE at hbase ⊢
    by_cases hat : at_ < (code.length : Int)
    · rw [if_pos hat] at hbase ⊢
      by_cases hd : (decP code at_).2.2 = 0
      · have hno : ¬ (decP code at_).2.2 ≠ 0 := fun h => h hd
        rw [if_neg hno] at hbase ⊢
        by_cases hs : (Nv.stepE (decP code at_).1 x).2 = 0
        · have hno2 : ¬ (Nv.stepE (decP code at_).1 x).2 ≠ 0 := fun h => h hs
          rw [if_neg hno2] at hbase ⊢
          obtain ⟨hf, harg⟩ := dec_fit hd
          have htb := tbl hf.op.1 hf.op.2
          have hg := Nv.stepE_good hx ⟨htb.out2, htb.out0⟩ harg hs
          by_cases he : (decP code at_).1.1 = 36 ∨ (decP code at_).1.1 = 37 ∨ (decP code at_).1.1 = 38
          · rw [if_pos he] at hbase ⊢
            by_cases hq : (decP code at_).2.1 < (code.length : Int)
            · rw [if_pos hq]; exact Fine2.zero
            · rw [if_neg hq] at hbase ⊢
              refine ⟨hbase, hg.rasc, hg.wasc, ?_⟩
              have := hg.steps
              show 0 ≤ (Nv.stepE _ x).1.2.2.2.2.1 ∧ (Nv.stepE _ x).1.2.2.2.2.1 ≤ 3000
              omega
          · rw [if_neg he]
            exact ofE_fine2 n _ _ (c + 1) (by omega) hg
        · rw [if_pos hs]; exact Fine2.zero
      · rw [if_pos hd]; exact Fine2.zero
    · rw [if_neg hat]; exact Fine2.zero
theorem of_fine (code : List Int) : Fine2 (OF code).1 := by
  show Fine2 (Nv.ofP decP code).1
  unfold Nv.ofP
  split
  · exact Fine2.zero
  · exact ofE_fine2 _ _ _ 0 (by omega) Nv.Good.start
/-! ### within -/
def asc (l : List Int) : Bool := decide (l.Pairwise (· < ·)) && short big9 l
theorem asc_iff {l : List Int} : asc l = true ↔ l.Pairwise (· < ·) ∧ l.length ≤ 1000000000 := by
  simp only [asc, Bool.and_eq_true, decide_eq_true_eq, short_iff, big9]
theorem getD_le {l : List Int} (h : l.Pairwise (· < ·)) {i j : Nat} (hij : i ≤ j) (hj : j < l.length) : l.getD i 0 ≤ l.getD j 0 := by
  have e1 : l.getD i 0 = l[i]'(by omega) := by simp [List.getD, show i < l.length by omega]
  have e2 : l.getD j 0 = l[j] := by simp [List.getD, hj]
  rw [e1, e2]
  by_cases e : i = j
  · subst e; exact Int.le_refl _
  · have := List.pairwise_iff_getElem.1 h i j (by omega) hj (by omega); omega
theorem mem_getD {l : List Int} {y : Int} (h : y ∈ l) : ∃ i, i < l.length ∧ l.getD i 0 = y := by
  obtain ⟨i, hi, rfl⟩ := List.getElem_of_mem h
  exact ⟨i, hi, by simp [List.getD, hi]⟩
theorem getD_mem {l : List Int} {i : Nat} (h : i < l.length) : l.getD i 0 ∈ l := by
  rw [show l.getD i 0 = l[i] by simp [List.getD, h]]; exact List.getElem_mem h
theorem allIn_iff {a b : Int} {l : List Int} : Nv.allIn a b l = true ↔ ∀ y ∈ l, a ≤ y ∧ y < b := by
  simp only [Nv.allIn, List.all_eq_true, Bool.and_eq_true, decide_eq_true_eq]
theorem wi_eq {l : List Int} {a b : Int} (h : asc l = true) : evalT Try.prog tt call0 [] [] 22 sWi rB1 (l, a, b, ()) = some (Nv.allIn a b l, ()) := by
  obtain ⟨hs, hl⟩ := asc_iff.1 h
  rw [e22_eq]
  by_cases h0 : l.length = 0
  · rw [show ((l.length : Int) == 0) = true by simp [h0], cond_true, List.eq_nil_of_length_eq_zero h0]; rfl
  · have i0 : inRange 0 l.length = true := inR (i := 0) (by omega)
    have e1 : w64 ((l.length : Int) - 1) = ((l.length - 1 : Nat) : Int) := by rw [w64_small (by omega) (by omega)]; omega
    rw [beq_eq_false_iff_ne.2 (show (l.length : Int) ≠ 0 by omega), cond_false, i0, cond_true, e1, inR (show l.length - 1 < l.length by omega), cond_true, Int.toNat_natCast]
    show (bif decide (l.getD 0 0 ≥ a) then okB (decide (l.getD (l.length - 1) 0 < b)) else okB false) = _
    by_cases ha : l.getD 0 0 ≥ a
    · rw [decide_eq_true ha, cond_true]
      unfold okB
      congr 2
      by_cases hb : l.getD (l.length - 1) 0 < b
      · rw [decide_eq_true hb]
        symm
        refine allIn_iff.2 fun y hy => ?_
        obtain ⟨i, hi, rfl⟩ := mem_getD hy
        have a1 := getD_le hs (Nat.zero_le i) hi
        have a2 := getD_le hs (show i ≤ l.length - 1 by omega) (by omega)
        omega
      · rw [decide_eq_false hb]
        cases hq : Nv.allIn a b l with
        | false => rfl
        | true => exact absurd (allIn_iff.1 hq _ (getD_mem (show l.length - 1 < l.length by omega))).2 hb
    · rw [decide_eq_false ha, cond_false]
      cases hq : Nv.allIn a b l with
      | false => rfl
      | true => exact absurd (allIn_iff.1 hq _ (getD_mem (show 0 < l.length by omega))).1 ha
theorem fnWi : FnT Try.prog 22 sWi rB1 fun x => bif asc x.1 then some (Nv.allIn x.2.1 x.2.2.1 x.1, ()) else none := domT fun x hx => by
  obtain ⟨l, a, b, ⟨⟩⟩ := x
  exact ⟨_, call0_ok, _, _, wi_eq hx⟩
/-! ### number -/
def F24 (u : UnD) (i : Int) : Option (Int × Unit) := bif inRange i u.2.2.length then bif decide ((segAt u.2.2 i).1 < 1) then okI 2 else bif decide ((segAt u.2.2 i).1 > 31) then okI 2 else bif decide (i > 0) then
      bif inRange (w64 (i - 1)) u.2.2.length then bif decide ((segAt u.2.2 i).1 ≤ (segAt u.2.2 (w64 (i - 1))).1) then okI 2 else okI 0 else none else okI 0 else none
theorem fnNum : FnT Try.prog 24 sUI rI1 fun x => F24 x.1 x.2.1 := mkT fun x y h => by
  obtain ⟨u, i, ⟨⟩⟩ := x
  exact ⟨_, call0_ok, _, _, (e24_eq u i).trans h⟩
def segN (l : List SegD) (i : Nat) : SegD := l.getD i (0, [])
theorem segAt_nat (l : List SegD) (i : Nat) : segAt l (i : Int) = segN l i := rfl
theorem seg_drop {l : List SegD} {i : Nat} (h : i < l.length) : l.drop i = segN l i :: l.drop (i + 1) := by
  rw [List.drop_eq_getElem_cons h]
  simp [segN, List.getD, h]
theorem seg_mem {l : List SegD} {i : Nat} (h : i < l.length) : segN l i ∈ l := by
  unfold segN
  rw [show l.getD i (0, []) = l[i] by simp [List.getD, h]]; exact List.getElem_mem h
/-- the number before a segment's -/
def lastN (l : List SegD) (i : Nat) : Int := if i = 0 then 0 else (segN l (i - 1)).1
theorem F24_ok {u : UnD} {i : Nat} (h : i < u.2.2.length) (hl : u.2.2.length ≤ 1000) (hp : 0 ≤ lastN u.2.2 i) :
    F24 u i = okI (if (segN u.2.2 i).1 ≤ lastN u.2.2 i ∨ (segN u.2.2 i).1 > 31 then 2 else 0) := by
  unfold F24
  rw [inR h, cond_true, segAt_nat]
  unfold lastN at hp ⊢
  generalize (segN u.2.2 i).1 = n at *
  by_cases h1 : n < 1
  · rw [decide_eq_true h1, cond_true, if_pos (.inl (by split at hp <;> split <;> omega))]
  rw [decide_eq_false h1, cond_false]
  by_cases h2 : n > 31
  · rw [decide_eq_true h2, cond_true, if_pos (.inr h2)]
  rw [decide_eq_false h2, cond_false]
  by_cases h3 : i = 0
  · have hno : ¬ (i : Int) > 0 := by omega
    rw [decide_eq_false hno, cond_false, if_pos h3]
    have hno2 : ¬ (n ≤ 0 ∨ n > 31) := by omega
    rw [if_neg hno2]
  · have e : w64 ((i : Int) - 1) = ((i - 1 : Nat) : Int) := by rw [w64_small (by omega) (by omega)]; omega
    rw [decide_eq_true (show (i : Int) > 0 by omega), cond_true, e, inR (by omega), cond_true, segAt_nat, if_neg h3]
    by_cases h4 : n ≤ (segN u.2.2 (i - 1)).1
    · rw [decide_eq_true h4, cond_true, if_pos (.inl h4)]
    · have hno2 : ¬ (n ≤ (segN u.2.2 (i - 1)).1 ∨ n > 31) := by omega
      rw [decide_eq_false h4, cond_false, if_neg hno2]
/-! ### has -/
def hasU (u : UnD) (n : Int) : Bool := decide (n ∈ u.2.2.map (·.1))
def dHasU (u : UnD) : Bool := Nat.ble u.2.2.length 1000000
theorem has_loop (u : UnD) (n : Int) (hl : u.2.2.length ≤ 1000000) : ∀ (k i : Nat), i + k = u.2.2.length → lim S43 (n, u, (i : Int), ()) = some (if n ∈ (u.2.2.drop i).map (·.1) then .inr (true, ()) else .inl ())
  | 0, i, h => by
    refine lim_end ?_
    rw [S43_eq, decide_eq_false (show ¬ (i : Int) < (u.2.2.length : Int) by omega), cond_false, if_neg (by rw [List.drop_eq_nil_of_le (by omega)]; simp)]
  | k + 1, i, h => by
    have e1 : decide ((i : Int) < (u.2.2.length : Int)) = true := decide_eq_true (by omega)
    have e2 : (u.2.2.drop i).map (·.1) = (segN u.2.2 i).1 :: (u.2.2.drop (i + 1)).map (·.1) := by rw [seg_drop (by omega)]; rfl
    by_cases hm : (segN u.2.2 i).1 = n
    · refine lim_end ?_
      rw [S43_eq, e1, inR (by omega), cond_true, cond_true, segAt_nat, show ((segN u.2.2 i).1 == n) = true by simpa using hm, cond_true, e2, if_pos (by rw [hm]; simp)]
    · have hs : S43 (n, u, (i : Int), ()) = some (.inl (n, u, ((i + 1 : Nat) : Int), ())) := by
        rw [S43_eq, e1, inR (by omega), cond_true, cond_true, segAt_nat, beq_eq_false_iff_ne.2 hm, cond_false, w64_small (by omega) (by omega)]; rfl
      rw [lim_next hs, has_loop u n hl k (i + 1) (by omega), e2]
      congr 1
      have hm' : ¬ n = (segN u.2.2 i).1 := fun e => hm e.symm
      by_cases hx : n ∈ (u.2.2.drop (i + 1)).map (·.1)
      · rw [if_pos hx, if_pos (List.mem_cons_of_mem _ hx)]
      · rw [if_neg hx, if_neg (by simp only [List.mem_cons, not_or]; exact ⟨hm', hx⟩)]
theorem fnHas : FnT Try.prog 43 sUI rB1 fun x => bif dHasU x.1 then some (hasU x.1 x.2.1, ()) else none := domT fun x hx => by
  obtain ⟨u, n, ⟨⟩⟩ := x
  refine ⟨_, call0_ok, [has0], [], (e43_eq u n).trans ?_⟩
  have := has_loop u n (Nat.le_of_ble_eq_true hx) u.2.2.length 0 (by omega)
  rw [List.drop_zero] at this
  have e : lim S43 (n, u, 0, ()) = _ := this
  rw [e]
  unfold hasU
  by_cases hm : n ∈ u.2.2.map (·.1)
  · rw [if_pos hm, decide_eq_true hm]
  · rw [if_neg hm, decide_eq_false hm]
/-! ### next -/
def gN : GN := ⟨hasU, dHasU, Nv.common, dCom⟩
theorem okN (R : Type) : CallsOK Try.prog (callN gN R) := callsE_ok tt_ok mixed names (fun fn s hs => by
  unfold specsN at hs
  split at hs
  · cases hs; exact specL_ok fnHas (cntN 43 (by kernel_rfl))
  · cases hs; exact specL_ok fnCom17 (cntN 42 (by kernel_rfl))
  · cases hs) 20
noncomputable def F27 (u : UnD) (i : Int) (f : Eff5) : Option (Int × Unit) := match lim (S27 gN) (i, u, f, 0, ()) with
    | none => none
    | some (.inl _) => okI 0
    | some (.inr y) => okI y.1
theorem fnNxt : FnT Try.prog 27 sUIE rI1 fun x => F27 x.1 x.2.1 x.2.2.1 := mkT fun x y h => by
  obtain ⟨u, i, f, ⟨⟩⟩ := x
  exact ⟨_, okN, _, _, (e27_eq gN u i f).trans h⟩
def resN (e : Int) : Unit ⊕ (Int × Unit) := if e = 0 then .inl () else .inr (e, ())
theorem nextC_cons (ks : List Int) (n k : Int) (r : List Int) : Nv.nextC ks n (k :: r) = if k ≤ n then 14 else if k ∈ ks then Nv.nextC ks n r else 7 := rfl
theorem nxt_loop {u : UnD} {i : Nat} {f : Eff5} (hi : i < u.2.2.length) (hl : u.2.2.length ≤ 1000) (hf : f.2.2.2.2.length ≤ 1000) : ∀ (n k : Nat), k + n = f.2.2.2.2.length →
    lim (S27 gN) ((i : Int), u, f, (k : Int), ()) = some (resN (Nv.nextC (u.2.2.map (·.1)) (segN u.2.2 i).1 (f.2.2.2.2.drop k)))
  | 0, k, h => by
    refine lim_end ?_
    rw [S27_eq, decide_eq_false (show ¬ (k : Int) < (f.2.2.2.2.length : Int) by omega), cond_false, List.drop_eq_nil_of_le (by omega)]
    rfl
  | n + 1, k, h => by
    have e1 : decide ((k : Int) < (f.2.2.2.2.length : Int)) = true := decide_eq_true (by omega)
    have hd : gN.dHas u = true := Nat.ble_eq_true_of_le (show u.2.2.length ≤ 1000000 by omega)
    rw [drop_cons (show k < f.2.2.2.2.length by omega), nextC_cons]
    by_cases h1 : f.2.2.2.2.getD k 0 ≤ (segN u.2.2 i).1
    · refine lim_end ?_
      rw [S27_eq, e1, inR (by omega), inR hi, cond_true, cond_true, cond_true, segAt_nat, Int.toNat_natCast, decide_eq_true h1, cond_true, if_pos h1]; rfl
    · have hstep : S27 gN ((i : Int), u, f, (k : Int), ()) = bif !(hasU u (f.2.2.2.2.getD k 0)) then some (.inr (.inr (7, ()))) else some (.inl ((i : Int), u, f, ((k + 1 : Nat) : Int), ())) := by
        rw [S27_eq, e1, inR (by omega), inR hi, cond_true, cond_true, cond_true, segAt_nat, Int.toNat_natCast, decide_eq_false h1, cond_false, cond_true, w64_small (by omega) (by omega)]
        exact askQ_ok hd
      rw [if_neg h1]
      by_cases h2 : f.2.2.2.2.getD k 0 ∈ u.2.2.map (·.1)
      · have hs : S27 gN ((i : Int), u, f, (k : Int), ()) = some (.inl ((i : Int), u, f, ((k + 1 : Nat) : Int), ())) := by
          rw [hstep]; unfold hasU; rw [decide_eq_true h2]; rfl
        rw [lim_next hs, nxt_loop hi hl hf n (k + 1) (by omega), if_pos h2]
      · refine lim_end ?_
        rw [hstep, if_neg h2]; unfold hasU; rw [decide_eq_false h2]; rfl
theorem F27_ok {u : UnD} {i : Nat} {f : Eff5} (hi : i < u.2.2.length) (hl : u.2.2.length ≤ 1000) (hf : f.2.2.2.2.length ≤ 1000) : F27 u i f = okI (Nv.nextC (u.2.2.map (·.1)) (segN u.2.2 i).1 f.2.2.2.2) := by
  unfold F27
  have h := nxt_loop hi hl hf f.2.2.2.2.length 0 (by omega)
  rw [List.drop_zero] at h
  have e : lim (S27 gN) ((i : Int), u, f, 0, ()) = _ := h
  rw [e]
  unfold resN
  by_cases h0 : Nv.nextC (u.2.2.map (·.1)) (segN u.2.2 i).1 f.2.2.2.2 = 0
  · rw [if_pos h0, h0]
  · rw [if_neg h0]
/-! ### region -/
noncomputable def F26 (f : Eff5) (a b : Int) (fx : List Int) : Option (Int × Unit) := match lim (S260 gN) (a, b, fx, f, 0, ()) with
    | none => none
    | some (.inl y) => (match lim (S262 gN) (y.1, y.2.1, y.2.2.1, y.2.2.2.1, 0, ()) with
      | none => none
      | some (.inl z) => askQ (gN.dCom z.2.2.2.1.2.1 z.2.2.1) (gN.com z.2.2.2.1.2.1 z.2.2.1) fun l => bif decide ((l.length : Int) > 0) then okI 15 else okI 0
      | some (.inr z) => okI z.1)
    | some (.inr y) => okI y.1
theorem fnReg : FnT Try.prog 26 sEIIL rI1 fun x => F26 x.1 x.2.1 x.2.2.1 x.2.2.2.1 := mkT fun x y h => by
  obtain ⟨f, a, b, fx, ⟨⟩⟩ := x
  exact ⟨_, okN, _, _, (e26r_eq gN f a b fx).trans h⟩
theorem reg_loop {S : X26r → O26r} {l : List Int} {a b : Int} {fx : List Int} {f : Eff5} (hS : ∀ i, S (a, b, fx, f, i, ()) = regS l a b fx f i) (hl : l.length ≤ 1000000) : ∀ (n i : Nat), i + n = l.length →
    lim S (a, b, fx, f, (i : Int), ()) = some (if Nv.allIn a b (l.drop i) = true then .inl (a, b, fx, f, ()) else .inr (3, ()))
  | 0, i, h => by
    refine lim_end ?_
    rw [hS, List.drop_eq_nil_of_le (by omega)]
    unfold regS
    rw [decide_eq_false (show ¬ (i : Int) < (l.length : Int) by omega), cond_false]; rfl
  | n + 1, i, h => by
    have e1 : decide ((i : Int) < (l.length : Int)) = true := decide_eq_true (by omega)
    have e2 : Nv.allIn a b (l.drop i) = ((decide (a ≤ l.getD i 0) && decide (l.getD i 0 < b)) && Nv.allIn a b (l.drop (i + 1))) := by rw [drop_cons (show i < l.length by omega)]; rfl
    rw [e2]
    by_cases h1 : l.getD i 0 < a
    · refine lim_end ?_
      rw [hS]; unfold regS
      rw [e1, inR (by omega), cond_true, cond_true, Int.toNat_natCast, decide_eq_true h1, cond_true, decide_eq_false (show ¬ a ≤ l.getD i 0 by omega)]; rfl
    · by_cases h2 : l.getD i 0 ≥ b
      · refine lim_end ?_
        rw [hS]; unfold regS
        rw [e1, inR (by omega), cond_true, cond_true, Int.toNat_natCast, decide_eq_false h1, cond_false, cond_true, decide_eq_true h2, cond_true, decide_eq_false (show ¬ l.getD i 0 < b by omega), Bool.and_false, Bool.false_and]; rfl
      · have hs : S (a, b, fx, f, (i : Int), ()) = some (.inl (a, b, fx, f, ((i + 1 : Nat) : Int), ())) := by
          rw [hS]; unfold regS
          rw [e1, inR (by omega), cond_true, cond_true, Int.toNat_natCast, decide_eq_false h1, cond_false, cond_true, decide_eq_false h2, cond_false, w64_small (by omega) (by omega)]; rfl
        rw [lim_next hs, reg_loop hS hl n (i + 1) (by omega), decide_eq_true (show a ≤ l.getD i 0 by omega), decide_eq_true (show l.getD i 0 < b by omega), Bool.true_and, Bool.true_and]
def regP (f : Eff5) (a b : Int) (fx : List Int) : Int := if Nv.allIn a b f.1 = false ∨ Nv.allIn a b f.2.1 = false then 3 else if (Nv.common f.2.1 fx).length ≠ 0 then 15 else 0
theorem F26_ok {f : Eff5} {a b : Int} {fx : List Int} (h1 : f.1.length ≤ 1000000) (h2 : f.2.1.length ≤ 1000000) (hd : dCom f.2.1 fx = true) : F26 f a b fx = okI (regP f a b fx) := by
  unfold F26 regP
  have l1 := reg_loop (fun i => S260_eq gN a b fx f i) h1 f.1.length 0 (by omega)
  have l2 := reg_loop (fun i => S262_eq gN a b fx f i) h2 f.2.1.length 0 (by omega)
  rw [List.drop_zero] at l1 l2
  have e1 : lim (S260 gN) (a, b, fx, f, 0, ()) = _ := l1
  have e2 : lim (S262 gN) (a, b, fx, f, 0, ()) = _ := l2
  rw [e1]
  cases q1 : Nv.allIn a b f.1 with
  | false => rw [if_neg (by simp), if_pos (.inl rfl)]
  | true =>
    rw [if_pos rfl]
    simp only
    rw [e2]
    cases q2 : Nv.allIn a b f.2.1 with
    | false => rw [if_neg (by simp), if_pos (.inr rfl)]
    | true =>
      have hno : ¬ (true = false ∨ true = false) := by simp
      rw [if_pos rfl, if_neg hno]
      refine (askQ_ok hd).trans ?_
      show (bif decide (((Nv.common f.2.1 fx).length : Int) > 0) then okI 15 else okI 0) = _
      by_cases h0 : (Nv.common f.2.1 fx).length = 0
      · have hno2 : ¬ ((Nv.common f.2.1 fx).length : Int) > 0 := by omega
        rw [decide_eq_false hno2, cond_false, if_neg (fun h => h h0)]
      · rw [decide_eq_true (show ((Nv.common f.2.1 fx).length : Int) > 0 by omega), cond_true, if_pos h0]
/-! ### unit -/
def segsP (p : PgD) : Nat → Nat → List SegD
  | 0, _ => []
  | n + 1, i => (p.1.getD i 0, p.2.1.getD i []) :: segsP p n (i + 1)
def unP (p : PgD) : UnD := (⟨#[]⟩, [], segsP p p.2.1.length 0)
def dUnP (p : PgD) : Bool := Nat.ble p.2.1.length 1000000 && p.2.1.all (short big9)
theorem unK_ok {p : PgD} {z u : UnD} {i : Nat} {n : Int} (hi : i < p.2.1.length) (hd : dUnP p = true) (hu : u.2.2.length ≤ i) : unK (short big9) p z u i n = some (.inl (p, z, (u.1, u.2.1, u.2.2 ++ [(n, p.2.1.getD i [])]), ((i + 1 : Nat) : Int), ())) := by
  simp only [dUnP, Bool.and_eq_true] at hd
  have hl := Nat.le_of_ble_eq_true hd.1
  unfold unK
  rw [inR hi, cond_true, Int.toNat_natCast]
  have hm : p.2.1.getD i [] ∈ p.2.1 := by rw [show p.2.1.getD i [] = p.2.1[i] by simp [List.getD, hi]]; exact List.getElem_mem hi
  refine (askQ_ok (List.all_eq_true.1 hd.2 _ hm)).trans ?_
  rw [app_ok (by rw [List.length_append]; simp only [List.length_cons, List.length_nil]; omega), w64_small (by omega) (by omega)]; rfl
theorem un_loop {p : PgD} {z : UnD} (hd : dUnP p = true) : ∀ (n i : Nat) (u : UnD), i + n = p.2.1.length → u.2.2.length ≤ i → lim (S6u (short big9)) (p, z, u, (i : Int), ()) = some (.inl (z, (u.1, u.2.1, u.2.2 ++ segsP p n i), ()))
  | 0, i, u, h, _ => by
    refine lim_end ?_
    rw [S6u_eq, decide_eq_false (show ¬ (i : Int) < (p.2.1.length : Int) by omega), cond_false]
    simp only [segsP, List.append_nil]
  | n + 1, i, u, h, hu => by
    have hs : S6u (short big9) (p, z, u, (i : Int), ()) = some (.inl (p, z, (u.1, u.2.1, u.2.2 ++ [(p.1.getD i 0, p.2.1.getD i [])]), ((i + 1 : Nat) : Int), ())) := by
      rw [S6u_eq, decide_eq_true (show (i : Int) < (p.2.1.length : Int) by omega), cond_true]
      by_cases hn : i < p.1.length
      · rw [decide_eq_true (show (i : Int) < (p.1.length : Int) by omega), cond_true, inR hn, cond_true, Int.toNat_natCast]
        exact unK_ok (by omega) hd hu
      · rw [decide_eq_false (show ¬ (i : Int) < (p.1.length : Int) by omega), cond_false]
        have e : p.1.getD i 0 = 0 := by simp [List.getD, show p.1.length ≤ i by omega]
        rw [e]
        exact unK_ok (by omega) hd hu
    rw [lim_next hs, un_loop hd n (i + 1) _ (by omega) (by simp only [List.length_append, List.length_cons, List.length_nil]; omega)]
    simp only [segsP, List.append_assoc, List.cons_append, List.nil_append]
theorem okWd (R : Type) : CallsOK Try.prog (callW (short big9) R) := callsE_ok tt_ok mixed names (fun fn s hs => by
  unfold specsW at hs
  split at hs
  · cases hs; exact specL_ok fnWords5 (cntN 15 (by kernel_rfl))
  · cases hs) 20
theorem fnUn : FnT Try.prog 6 sPg rUn fun x => bif dUnP x.1 then some (unP x.1, ()) else none := domT fun x hx => by
  obtain ⟨p, ⟨⟩⟩ := x
  refine ⟨_, okWd, [un0], [], (e6u_eq _ p).trans ?_⟩
  have hx' : dUnP p = true := hx
  have h := un_loop (z := unZ) hx' p.2.1.length 0 unZ (Nat.zero_add _) (Nat.zero_le _)
  have e : lim (S6u (short big9)) (p, unZ, unZ, 0, ()) = _ := h
  rw [e]; rfl
end Go.Pv.Sg
/-! ### each, Unit and the reference's Unit: what they compute. -/
namespace Go.Pv.Sg
open Go.Proofs
set_option maxRecDepth 1000000
theorem getL_put {α : Type} (k n : Int) (d x : α) : ∀ m : List (Int × α), getL k d (putL n x m) = if k = n then x else getL k d m
  | [] => by
    simp only [putL, getL]
    by_cases h : n = k
    · rw [decide_eq_true h, if_pos h.symm]; rfl
    · rw [decide_eq_false h, if_neg (fun e => h e.symm)]; rfl
  | p :: r => by
    have ih := getL_put k n d x r
    simp only [putL]
    by_cases hp : p.1 = n
    · rw [decide_eq_true hp, cond_true]
      simp only [getL]
      by_cases h : n = k
      · rw [decide_eq_true h, if_pos h.symm]; rfl
      · rw [decide_eq_false h, if_neg (fun e => h e.symm), hp, decide_eq_false h]; rfl
    · rw [decide_eq_false hp, cond_false]
      simp only [getL]
      by_cases h : p.1 = k
      · rw [decide_eq_true h, cond_true, if_neg (by omega), cond_true]
      · rw [decide_eq_false h, cond_false, cond_false, ih]
structure OkU (u : UnD) : Prop where
  len : u.2.2.length ≤ 40
  wd : ∀ s ∈ u.2.2, wdsOk s.2 = true
  nm : ∀ s ∈ u.2.2, wfI s.1 = true
noncomputable def gE : GE := ⟨OF, wdsOk, Nv.safeP, dSafe, Nv.common, dCom, fun l a b => Nv.allIn a b l, asc⟩
theorem okE (R : Type) : CallsOK Try.prog (callEa gE R) := callsE_ok tt_ok mixed names (fun fn s hs => by
  unfold specsE at hs
  split at hs
  · cases hs; exact specL_ok fnOf6 (cntN 12 (by kernel_rfl))
  · cases hs; exact specL_ok fnSafe9 (cntN 21 (by kernel_rfl))
  · cases hs; exact specL_ok fnWi (cntN 22 (by kernel_rfl))
  · cases hs; exact specL_ok fnCom16 (cntN 23 (by kernel_rfl))
  · cases hs) 20
/-! ### The numbers that are known -/
def InMap (m : Mp) (ks : List Int) : Prop := ∀ k, getL k false m = decide (k ∈ ks)
theorem fill_loop {C : Type} {S : XE0 C → OE0 C} {c : C} {u : UnD} {l : List SegD} (hS : ∀ m i, S (c, u, m, l, (l.length : Int), i, ()) = e0S c u m l (l.length : Int) i) (hw : ∀ s ∈ l, wfI s.1 = true) (hl : l.length ≤ 1000) :
    ∀ (n i : Nat) (m : Mp), i + n = l.length → InMap m ((l.take i).map (·.1)) → ∃ m', lim S (c, u, m, l, (l.length : Int), (i : Int), ()) = some (.inl (c, u, m', ())) ∧ InMap m' (l.map (·.1))
  | 0, i, m, h, hm => by
    refine ⟨m, lim_end ?_, ?_⟩
    · rw [hS]; unfold e0S
      rw [decide_eq_false (show ¬ (i : Int) < (l.length : Int) by omega), cond_false]
    · rw [List.take_of_length_le (by omega)] at hm; exact hm
  | n + 1, i, m, h, hm => by
    have hs : S (c, u, m, l, (l.length : Int), (i : Int), ()) = some (.inl (c, u, putL (segN l i).1 true m, l, (l.length : Int), ((i + 1 : Nat) : Int), ())) := by
      rw [hS]; unfold e0S
      rw [decide_eq_true (show (i : Int) < (l.length : Int) by omega), cond_true, inR (by omega), cond_true, segAt_nat, hw _ (seg_mem (by omega)), cond_true, w64_small (by omega) (by omega)]; rfl
    obtain ⟨m', h1, h2⟩ := fill_loop hS hw hl n (i + 1) (putL (segN l i).1 true m) (by omega) fun k => by
      rw [getL_put, hm k, show l.take (i + 1) = l.take i ++ [segN l i] by
        rw [List.take_succ_eq_append_getElem (by omega)]; simp [segN, List.getD, show i < l.length by omega], List.map_append]
      by_cases hk : k = (segN l i).1
      · rw [if_pos hk, decide_eq_true (by rw [List.mem_append]; exact .inr (by simp [hk]))]
      · rw [if_neg hk]
        congr 1
        simp [hk]
    exact ⟨m', by rw [lim_next hs]; exact h1, h2⟩
/-! ### What follows -/
def finN (ks : List Int) (n e : Int) (q : List Int) : Int := if e ≠ 0 then e else Nv.nextC ks n q
theorem fol_loop {C : Type} {S : XE4 C → OE4 C} {c : C} {m : Mp} {last : Int} {all : List Eff5} {s : SegD} {f : Eff5} {l : List SegD} {n i : Int} {q : List Int} {ks : List Int}
    (hS : ∀ e j, S (c, m, last, all, s, f, e, l, n, i, q, (q.length : Int), j, ()) = e4S c m last all s f e l n i q (q.length : Int) j) (hm : InMap m ks) (hq : q.length ≤ 1000) :
    ∀ (k j : Nat) (e : Int), j + k = q.length → lim S (c, m, last, all, s, f, e, l, n, i, q, (q.length : Int), (j : Int), ()) = some (.inl (c, m, last, all, s, f, finN ks s.1 e (q.drop j), l, n, i, ()))
  | 0, j, e, h => by
    refine lim_end ?_
    rw [hS]; unfold e4S
    rw [decide_eq_false (show ¬ (j : Int) < (q.length : Int) by omega), cond_false, List.drop_eq_nil_of_le (by omega)]
    unfold finN
    by_cases he : e = 0
    · subst he; rfl
    · rw [if_pos he]
  | k + 1, j, e, h => by
    have e1 : decide ((j : Int) < (q.length : Int)) = true := decide_eq_true (by omega)
    have key : ∀ e', S (c, m, last, all, s, f, e, l, n, i, q, (q.length : Int), (j : Int), ()) = some (.inl (c, m, last, all, s, f, e', l, n, i, q, (q.length : Int), ((j + 1 : Nat) : Int), ())) → finN ks s.1 e' (q.drop (j + 1)) = finN ks s.1 e (q.drop j) →
        lim S (c, m, last, all, s, f, e, l, n, i, q, (q.length : Int), (j : Int), ()) = some (.inl (c, m, last, all, s, f, finN ks s.1 e (q.drop j), l, n, i, ())) := fun e' hs he => by
      rw [lim_next hs, fol_loop hS hm hq k (j + 1) e' (by omega), he]
    rw [hS] at key
    unfold e4S at key
    rw [e1, inR (show j < q.length by omega), Int.toNat_natCast, w64_small (show -9000000000000000000 ≤ (j : Int) + 1 by omega) (by omega)] at key
    simp only [cond_true] at key
    rw [drop_cons (show j < q.length by omega)] at key ⊢
    by_cases he : e = 0
    · subst he
      rw [show ((0 : Int) != 0) = false from rfl, cond_false] at key
      have hc := nextC_cons ks s.1 (q.getD j 0) (q.drop (j + 1))
      have hf : finN ks s.1 0 (q.getD j 0 :: q.drop (j + 1)) = Nv.nextC ks s.1 (q.getD j 0 :: q.drop (j + 1)) := by unfold finN; rw [if_neg (by simp)]
      by_cases h1 : q.getD j 0 ≤ s.1
      · rw [decide_eq_true h1, cond_true] at key
        refine key 14 rfl ?_
        rw [hf, hc, if_pos h1]; unfold finN; rw [if_pos (by decide)]
      · rw [decide_eq_false h1, cond_false, hm] at key
        by_cases h2 : q.getD j 0 ∈ ks
        · rw [decide_eq_true h2, Bool.not_true, cond_false] at key
          refine key 0 rfl ?_
          rw [hf, hc, if_neg h1, if_pos h2]; unfold finN; rw [if_neg (by simp)]
        · rw [decide_eq_false h2, Bool.not_false, cond_true] at key
          refine key 7 rfl ?_
          rw [hf, hc, if_neg h1, if_neg h2]; unfold finN; rw [if_pos (by decide)]
    · rw [show (e != 0) = true by simpa using he, cond_true] at key
      refine key e rfl ?_
      unfold finN; rw [if_pos he, if_pos he]
/-! ### The segments, one after the other -/
def outE (r : Int × Int) (A : List Eff5) : (List Eff5 × Unit) ⊕ RE2 := if r.2 = 0 then .inl (A, ()) else .inr ([], r.1, r.2, ())
theorem outE_err (n e : Int) (A : List Eff5) (h : e ≠ 0) : outE (n, e) A = .inr ([], n, e, ()) := by unfold outE; rw [if_neg h]
theorem eachE_cons (of : List Int → Nv.Eff × Int × Int) (chk : Nv.Eff → Int) (ks : List Int) (last : Int) (s : SegD) (r : List SegD) :
    Nv.eachE of chk ks last (s :: r) = if s.1 ≤ last ∨ s.1 > 31 then (s.1, 2) else if Nv.segE of chk ks s ≠ 0 then (s.1, Nv.segE of chk ks s) else Nv.eachE of chk ks s.1 r := rfl
theorem main_loop {C : Type} {S2 : XE2 C → OE2 C} {S4 : XE4 C → OE4 C} {chkQ : C → Eff5 → (Int → OE2 C) → OE2 C} {c : C} {m : Mp} {l : List SegD} {ks : List Int} {chk : Nv.Eff → Int}
    (hS2 : ∀ last all i, S2 (c, m, last, all, l, (l.length : Int), i, ()) = e2S gE chkQ S4 c m last all l (l.length : Int) i)
    (hS4 : ∀ last all s f e i q j, S4 (c, m, last, all, s, f, e, l, (l.length : Int), i, q, (q.length : Int), j, ()) = e4S c m last all s f e l (l.length : Int) i q (q.length : Int) j)
    (hchk : ∀ f, Fine2 f → ∀ k, chkQ c f k = k (chk f)) (hm : InMap m ks) (hw : ∀ s ∈ l, wdsOk s.2 = true) (hl : l.length ≤ 1000) :
    ∀ (n i : Nat) (last : Int) (all : List Eff5), i + n = l.length → all.length ≤ i → lim S2 (c, m, last, all, l, (l.length : Int), (i : Int), ()) = some (outE (Nv.eachE OF chk ks last (l.drop i)) (all ++ (l.drop i).map fun s => (OF s.2).1))
  | 0, i, last, all, h, _ => by
    refine lim_end ?_
    rw [hS2]; unfold e2S
    rw [decide_eq_false (show ¬ (i : Int) < (l.length : Int) by omega), cond_false, List.drop_eq_nil_of_le (by omega), List.map_nil, List.append_nil]; rfl
  | n + 1, i, last, all, h, ha => by
    have e1 : decide ((i : Int) < (l.length : Int)) = true := decide_eq_true (by omega)
    rw [seg_drop (show i < l.length by omega), eachE_cons]
    generalize hs : segN l i = s
    have hsm : s ∈ l := hs ▸ seg_mem (by omega)
    have hst : S2 (c, m, last, all, l, (l.length : Int), (i : Int), ()) = bif decide (s.1 ≤ last) then retE s 2 else bif decide (s.1 > 31) then retE s 2 else
        getQ (gE.dOf s.2) ((gE.of s.2).1, (gE.of s.2).2.1, (gE.of s.2).2.2, ()) fun y => bif y.2.2.1 == 0 then chkQ c y.1 (e2K S4 c m all s y.1 l (l.length : Int) (i : Int)) else e2K S4 c m all s y.1 l (l.length : Int) (i : Int) y.2.2.1 := by
      rw [hS2]; unfold e2S
      rw [e1, cond_true, inR (by omega), cond_true, segAt_nat, hs]
    by_cases h1 : s.1 ≤ last
    · refine lim_end ?_
      rw [hst, decide_eq_true h1, cond_true, if_pos (.inl h1), outE_err _ _ _ (by decide)]; rfl
    by_cases h2 : s.1 > 31
    · refine lim_end ?_
      rw [hst, decide_eq_false h1, cond_false, decide_eq_true h2, cond_true, if_pos (.inr h2), outE_err _ _ _ (by decide)]; rfl
    have hno : ¬ (s.1 ≤ last ∨ s.1 > 31) := by omega
    rw [if_neg hno]
    have hfi : Fine2 (OF s.2).1 := of_fine s.2
    -- the error that is found
    have hK : ∀ e, finN ks s.1 e (OF s.2).1.2.2.2.2 = Nv.segE OF chk ks s → e2K S4 c m all s (OF s.2).1 l (l.length : Int) (i : Int) e =
        (if Nv.segE OF chk ks s ≠ 0 then some (.inr (.inr ([], s.1, Nv.segE OF chk ks s, ()))) else some (.inl (c, m, s.1, all ++ [(OF s.2).1], l, (l.length : Int), ((i + 1 : Nat) : Int), ()))) := fun e he => by
      unfold e2K
      have hq : (OF s.2).1.2.2.2.2.length ≤ 1000 := by have := hfi.base.next; omega
      have hl4 := fol_loop (S := S4) (fun e j => hS4 s.1 all s (OF s.2).1 e (i : Int) (OF s.2).1.2.2.2.2 j) hm hq (OF s.2).1.2.2.2.2.length 0 e (Nat.zero_add _)
      rw [List.drop_zero, he] at hl4
      have hl4' : lim S4 (c, m, s.1, all, s, (OF s.2).1, e, l, (l.length : Int), (i : Int), (OF s.2).1.2.2.2.2, ((OF s.2).1.2.2.2.2.length : Int), 0, ()) = _ := hl4
      rw [hl4']
      simp only
      by_cases h0 : Nv.segE OF chk ks s = 0
      · rw [h0, show ((0 : Int) != 0) = false from rfl, cond_false, app_ok (by rw [List.length_append]; simp only [List.length_cons, List.length_nil]; omega), if_neg (by simp), w64_small (by omega) (by omega)]; rfl
      · rw [show (Nv.segE OF chk ks s != 0) = true by simpa using h0, cond_true, if_pos h0]
    have hstep : S2 (c, m, last, all, l, (l.length : Int), (i : Int), ()) = (if Nv.segE OF chk ks s ≠ 0 then some (.inr (.inr ([], s.1, Nv.segE OF chk ks s, ()))) else some (.inl (c, m, s.1, all ++ [(OF s.2).1], l, (l.length : Int), ((i + 1 : Nat) : Int), ()))) := by
      rw [hst, decide_eq_false h1, cond_false, decide_eq_false h2, cond_false]
      refine (getQ_ok (hw s hsm)).trans ?_
      show (bif (OF s.2).2.2 == 0 then chkQ c (OF s.2).1 (e2K S4 c m all s (OF s.2).1 l (l.length : Int) (i : Int)) else e2K S4 c m all s (OF s.2).1 l (l.length : Int) (i : Int) (OF s.2).2.2) = _
      by_cases h0 : (OF s.2).2.2 = 0
      · rw [show ((OF s.2).2.2 == 0) = true by simpa using h0, cond_true, hchk _ hfi]
        refine hK _ ?_
        have hno9 : ¬ (OF s.2).2.2 ≠ 0 := fun h => h h0
        unfold Nv.segE finN
        rw [if_neg hno9]
      · rw [beq_eq_false_iff_ne.2 h0, cond_false]
        refine hK _ ?_
        unfold Nv.segE finN
        rw [if_pos h0, if_pos h0]
    by_cases h0 : Nv.segE OF chk ks s = 0
    · rw [if_neg (fun h => h h0)] at hstep ⊢
      rw [lim_next hstep, main_loop hS2 hS4 hchk hm hw hl n (i + 1) s.1 _ (by omega) (by rw [List.length_append]; simp only [List.length_cons, List.length_nil]; omega), List.map_cons, List.append_assoc]; rfl
    · rw [if_pos h0] at hstep ⊢
      rw [outE_err _ _ _ h0]
      exact lim_end hstep
theorem chkK_ok {c : Cap} (h1 : c.2.2.length ≤ 10000000) (h2 : wfL c.2.2 = true) (f : Eff5) (hf : Fine2 f) (k : Int → OE2 Cap) : chkK gE c f k = k (Nv.chkU c.1 c.2.1 c.2.2 f) := by
  have d1 : asc f.1 = true := asc_iff.2 ⟨hf.rasc, by have := hf.base.rlen; omega⟩
  have d2 : asc f.2.1 = true := asc_iff.2 ⟨hf.wasc, by have := hf.base.wlen; omega⟩
  have d3 : dCom f.2.1 c.2.2 = true := dCom_iff.2 ⟨⟨⟨by have := hf.base.wlen; omega, h1⟩, wfL_in hf.base.win⟩, h2⟩
  unfold chkK Nv.chkU
  refine (askQ_ok hf.base.safe).trans ?_
  show (bif !(Nv.safeP f) then k 15 else _) = _
  cases hs : Nv.safeP f with
  | false => rw [if_pos rfl]; rfl
  | true =>
    rw [if_neg (by simp), Bool.not_true, cond_false]
    refine (askQ_ok d1).trans ?_
    show (bif !(Nv.allIn c.1 c.2.1 f.1) then k 3 else _) = _
    cases hr : Nv.allIn c.1 c.2.1 f.1 with
    | false => rw [if_pos (.inl rfl)]; rfl
    | true =>
      rw [Bool.not_true, cond_false]
      refine (askQ_ok d2).trans ?_
      show (bif !(Nv.allIn c.1 c.2.1 f.2.1) then k 3 else _) = _
      cases hq : Nv.allIn c.1 c.2.1 f.2.1 with
      | false => rw [if_pos (.inr rfl)]; rfl
      | true =>
        have hno : ¬ (true = false ∨ true = false) := by simp
        rw [Bool.not_true, cond_false, if_neg hno]
        refine (askQ_ok d3).trans ?_
        show (bif decide (((Nv.common f.2.1 c.2.2).length : Int) > 0) then k 15 else k 0) = _
        by_cases h0 : (Nv.common f.2.1 c.2.2).length = 0
        · have hno2 : ¬ ((Nv.common f.2.1 c.2.2).length : Int) > 0 := by omega
          rw [decide_eq_false hno2, cond_false, if_neg (fun h => h h0)]
        · rw [decide_eq_true (show ((Nv.common f.2.1 c.2.2).length : Int) > 0 by omega), cond_true, if_pos h0]
/-- what each answers -/
noncomputable def ansE (chk : Nv.Eff → Int) (l : List SegD) : OEa :=
  match outE (Nv.eachE OF chk (l.map (·.1)) 0 l) (l.map fun s => (OF s.2).1) with
  | .inl z => some (z.1, 0, 0, ())
  | .inr z => some (z.1, z.2.1, z.2.2.1, ())
theorem eachK_ok {C : Type} {S0 : XE0 C → OE0 C} {S2 : XE2 C → OE2 C} {S4 : XE4 C → OE4 C} {chkQ : C → Eff5 → (Int → OE2 C) → OE2 C} {u : UnD} {c : C} {chk : Nv.Eff → Int} (hu : OkU u)
    (hS0 : ∀ m i, S0 (c, u, m, u.2.2, (u.2.2.length : Int), i, ()) = e0S c u m u.2.2 (u.2.2.length : Int) i)
    (hS2 : ∀ m last all i, S2 (c, m, last, all, u.2.2, (u.2.2.length : Int), i, ()) = e2S gE chkQ S4 c m last all u.2.2 (u.2.2.length : Int) i)
    (hS4 : ∀ m last all s f e i q j, S4 (c, m, last, all, s, f, e, u.2.2, (u.2.2.length : Int), i, q, (q.length : Int), j, ()) = e4S c m last all s f e u.2.2 (u.2.2.length : Int) i q (q.length : Int) j)
    (hchk : ∀ f, Fine2 f → ∀ k, chkQ c f k = k (chk f)) : eachK S0 S2 u c = ansE chk u.2.2 := by
  unfold eachK
  have hl := hu.len
  obtain ⟨m, h1, h2⟩ := fill_loop hS0 hu.nm (by omega) u.2.2.length 0 [] (Nat.zero_add _) (fun k => by simp [getL])
  have h1' : lim S0 (c, u, [], u.2.2, (u.2.2.length : Int), 0, ()) = _ := h1
  rw [h1']
  simp only
  have h3 := main_loop (hS2 m) (hS4 m) hchk h2 hu.wd (by omega) u.2.2.length 0 0 [] (Nat.zero_add _) (Nat.le_refl _)
  rw [List.drop_zero, List.nil_append] at h3
  have h3' : lim S2 (c, m, 0, [], u.2.2, (u.2.2.length : Int), 0, ()) = _ := h3
  rw [h3']
  unfold ansE
  cases outE (Nv.eachE OF chk (u.2.2.map (·.1)) 0 u.2.2) (u.2.2.map fun s => (OF s.2).1) <;> rfl
noncomputable def eaU (u : UnD) (c : Cap) : OEa := eachK (SU0 gE) (SU2 gE) u c
noncomputable def eaW (u : UnD) (c : Unit) : OEa := eachK (SW0 gE) (SW2 gE) u c
theorem fnEaU : FnO Try.prog 16 [Sl.agg 0 tUn, Sl.fn 1 20 trCap] rEa fun x => eaU x.1 x.2.1 := evalO_ok tt_ok mixed names fun x y h => by
  obtain ⟨u, c, ⟨⟩⟩ := x
  exact ⟨_, _, _, okE, (e16u_eq gE u c).trans h⟩
theorem fnEaW : FnO Try.prog 16 [Sl.agg 0 tUn, Sl.fn 1 17 .unit] rEa fun x => eaW x.1 x.2.1 := evalO_ok tt_ok mixed names fun x y h => by
  obtain ⟨u, c, ⟨⟩⟩ := x
  exact ⟨_, _, _, okE, (e16w_eq gE u c).trans h⟩
theorem eaU_ok {u : UnD} {c : Cap} (hu : OkU u) (h1 : c.2.2.length ≤ 10000000) (h2 : wfL c.2.2 = true) : eaU u c = ansE (Nv.chkU c.1 c.2.1 c.2.2) u.2.2 :=
  eachK_ok hu (fun m i => SU0_eq gE c u m u.2.2 _ i) (fun m last all i => SU2_eq gE c m last all u.2.2 _ i) (fun m last all s f e i q j => SU4_eq gE c m last all s f e u.2.2 _ i q _ j) (chkK_ok h1 h2)
theorem eaW_ok {u : UnD} (hu : OkU u) : eaW u () = ansE (fun _ => 0) u.2.2 :=
  eachK_ok (c := ()) hu (fun m i => SW0_eq gE () u m u.2.2 _ i) (fun m last all i => SW2_eq gE () m last all u.2.2 _ i) (fun m last all s f e i q j => SW4_eq gE () m last all s f e u.2.2 _ i q _ j) (fun _ _ _ => rfl)
/-! ### Unit -/
theorem okU1 (R : Type) : CallsOK Try.prog (callU1 eaU R) := callsE_ok tt_ok mixed names (fun fn s hs => by
  unfold specsU1 at hs
  split at hs
  · cases hs; exact specO_ok fnEaU (cntN 16 (by kernel_rfl))
  · cases hs) 20
noncomputable def F9 (u : UnD) (a b : Int) (fx : List Int) : OII := pre9 u a b (match eaU u (a, b, fx) with
    | none => none
    | some y => okII y.2.1 y.2.2.1)
theorem fn9 : FnT Try.prog 9 sUn4 rII fun x => F9 x.1 x.2.1 x.2.2.1 x.2.2.2.1 := mkT fun x y h => by
  obtain ⟨u, a, b, fx, ⟨⟩⟩ := x
  exact ⟨_, okU1, _, _, (e9u_eq eaU u a b fx).trans h⟩
noncomputable def unitA (u : UnD) (a b : Int) (fx : List Int) : Int × Int := Nv.unitP OF u.2.2 a b fx
theorem pre9_ok {u : UnD} {a b : Int} {fx : List Int} {k : OII} (hk : k = okII (Nv.eachE OF (Nv.chkU a b fx) (u.2.2.map (·.1)) 0 u.2.2).1 (Nv.eachE OF (Nv.chkU a b fx) (u.2.2.map (·.1)) 0 u.2.2).2) :
    pre9 u a b k = okII (unitA u a b fx).1 (unitA u a b fx).2 := by
  unfold pre9 unitA Nv.unitP
  by_cases h1 : u.2.2.length = 0
  · rw [show ((u.2.2.length : Int) == 0) = true by simp [h1], cond_true, if_pos (.inl h1)]
  rw [beq_eq_false_iff_ne.2 (show (u.2.2.length : Int) ≠ 0 by omega), cond_false]
  by_cases h2 : a < 64
  · rw [decide_eq_true h2, cond_true, if_pos (.inr (.inl h2))]
  rw [decide_eq_false h2, cond_false]
  by_cases h3 : b > 2000
  · rw [decide_eq_true h3, cond_true, if_pos (.inr (.inr (.inl h3)))]
  rw [decide_eq_false h3, cond_false]
  by_cases h4 : a > b
  · rw [decide_eq_true h4, cond_true, if_pos (.inr (.inr (.inr h4)))]
  have hno : ¬ (u.2.2.length = 0 ∨ a < 64 ∨ b > 2000 ∨ a > b) := by omega
  rw [decide_eq_false h4, cond_false, if_neg hno, hk]
theorem ansE_two {chk : Nv.Eff → Int} {l : List SegD} : ∃ A, ansE chk l = some (A, (Nv.eachE OF chk (l.map (·.1)) 0 l).1 , (Nv.eachE OF chk (l.map (·.1)) 0 l).2, ()) ∧ ((Nv.eachE OF chk (l.map (·.1)) 0 l).2 = 0 → A = l.map fun s => (OF s.2).1) := by
  unfold ansE outE
  by_cases h : (Nv.eachE OF chk (l.map (·.1)) 0 l).2 = 0
  · rw [if_pos h]
    have h1 : (Nv.eachE OF chk (l.map (·.1)) 0 l).1 = 0 := by
      have : ∀ (ks : List Int) (l : List SegD) (last : Int), (Nv.eachE OF chk ks last l).2 = 0 → (Nv.eachE OF chk ks last l).1 = 0 := by
        intro ks l
        induction l with
        | nil => intro last _; rfl
        | cons s r ih =>
          intro last hh
          rw [eachE_cons] at hh ⊢
          split at hh
          · simp at hh
          · rename_i c1
            rw [if_neg c1]
            split at hh
            · rename_i c2; exact absurd hh c2
            · rename_i c2
              rw [if_neg c2]; exact ih _ hh
      exact this _ _ _ h
    exact ⟨_, by rw [h, h1], fun _ => rfl⟩
  · rw [if_neg h]
    exact ⟨_, rfl, fun h' => absurd h' h⟩
theorem F9_ok {u : UnD} {a b : Int} {fx : List Int} (hu : OkU u) (h1 : fx.length ≤ 10000000) (h2 : wfL fx = true) : F9 u a b fx = okII (unitA u a b fx).1 (unitA u a b fx).2 := by
  unfold F9
  refine pre9_ok ?_
  rw [eaU_ok (c := (a, b, fx)) hu h1 h2]
  obtain ⟨A, h, _⟩ := ansE_two (chk := Nv.chkU a b fx) (l := u.2.2)
  rw [h]
end Go.Pv.Sg
/-! ### Work, the reference's Unit and Work: what they compute. -/
namespace Go.Pv.Sg
open Go.Proofs
set_option maxRecDepth 1000000
theorem mx_eq (a b : Int) : mx a b = max a b := by unfold mx; split <;> omega
/-! ### Work -/
theorem okW1 (R : Type) : CallsOK Try.prog (callW1 eaW R) := callsE_ok tt_ok mixed names (fun fn s hs => by
  unfold specsW1 at hs
  split at hs
  · cases hs; exact specO_ok fnEaW (cntN 16 (by kernel_rfl))
  · cases hs) 20
noncomputable def F7 (u : UnD) : OIII := bif (u.2.2.length : Int) == 0 then okIII 0 0 2 else match eaW u () with
    | none => none
    | some y => bif y.2.2.1 != 0 then okIII 0 0 y.2.2.1 else match lim (SK0 eaW) (u, 0, y.1, [], w64 ((y.1.length : Int) - 1), ()) with
      | none => none
      | some (.inl z) => bif inRange 0 z.1.2.2.length then okIII (getL (segAt z.1.2.2 0).1 0 z.2.2.1) z.2.1 0 else none
      | some (.inr _) => none
theorem fn7 : FnT Try.prog 7 [.agg tUn] rIII fun x => F7 x.1 := mkT fun x y h => by
  obtain ⟨u, ⟨⟩⟩ := x
  exact ⟨_, okW1, _, _, (e7u_eq eaW u).trans h⟩
def fold (g : Int → Int) (q : List Int) (r : Int) : Int := q.foldl (fun a k => max a (g k)) r
theorem wk2_loop {u : UnD} {lo : Int} {all : List Eff5} {m : MpI} {i : Int} {q : List Int} (hq : q.length ≤ 1000) : ∀ (n j : Nat) (r : Int), j + n = q.length →
    lim (SK2 eaW) (u, lo, all, m, i, r, q, (q.length : Int), (j : Int), ()) = some (.inl (u, lo, all, m, i, fold (fun k => getL k 0 m) (q.drop j) r, ()))
  | 0, j, r, h => by
    refine lim_end ?_
    rw [SK2_eq, decide_eq_false (show ¬ (j : Int) < (q.length : Int) by omega), cond_false, List.drop_eq_nil_of_le (by omega)]; rfl
  | n + 1, j, r, h => by
    have hs : SK2 eaW (u, lo, all, m, i, r, q, (q.length : Int), (j : Int), ()) = some (.inl (u, lo, all, m, i, max r (getL (q.getD j 0) 0 m), q, (q.length : Int), ((j + 1 : Nat) : Int), ())) := by
      rw [SK2_eq, decide_eq_true (show (j : Int) < (q.length : Int) by omega), cond_true, inR (by omega), cond_true, Int.toNat_natCast, mx_eq, w64_small (by omega) (by omega)]; rfl
    rw [lim_next hs, wk2_loop hq n (j + 1) _ (by omega), drop_cons (show j < q.length by omega)]; rfl
noncomputable abbrev sesOf (l : List SegD) : List Nv.SE := Nv.effs OF l
noncomputable abbrev allOf (l : List SegD) : List Eff5 := l.map fun s => (OF s.2).1
theorem effAt_all {l : List SegD} {i : Nat} (h : i < l.length) : effAt (allOf l) (i : Int) = (OF (segN l i).2).1 := by
  unfold effAt allOf segN
  rw [Int.toNat_natCast]
  simp [List.getD, h]
theorem ses_drop {l : List SegD} {i : Nat} (h : i < l.length) : (sesOf l).drop i = ((segN l i).1, (OF (segN l i).2).1) :: (sesOf l).drop (i + 1) := by
  unfold sesOf Nv.effs
  rw [← List.map_drop, seg_drop h, List.map_cons, List.map_drop]
theorem ses_st (l : List SegD) : ∀ s ∈ sesOf l, 0 ≤ s.2.2.2.1 ∧ s.2.2.2.1 ≤ 3000 := by
  intro s hs
  obtain ⟨x, _, rfl⟩ := List.mem_map.1 hs
  exact (of_fine x.2).st
theorem most_bd {l : List SegD} (hl : l.length ≤ 40) (i : Nat) (k : Int) : 0 ≤ Nv.mostF ((sesOf l).drop i) k ∧ Nv.mostF ((sesOf l).drop i) k ≤ 120000 := by
  have hm : ∀ s ∈ (sesOf l).drop i, 0 ≤ s.2.2.2.1 ∧ s.2.2.2.1 ≤ 3000 := fun s hs => ses_st l s (List.mem_of_mem_drop hs)
  have h1 := Nv.mostF_ge0 (fun s hs => (hm s hs).1) k
  have h2 := Nv.mostF_le (c := 3000) (by decide) (fun s hs => (hm s hs).2) k
  have h3 : ((sesOf l).drop i).length ≤ 40 := by simp [sesOf, Nv.effs]; omega
  exact ⟨h1, by omega⟩
theorem rest_bd {l : List SegD} (hl : l.length ≤ 40) (i : Nat) (q : List Int) : 0 ≤ Nv.rest (Nv.mostF ((sesOf l).drop i)) q ∧ Nv.rest (Nv.mostF ((sesOf l).drop i)) q ≤ 120000 :=
  ⟨Nv.rest_ge0 _ _, Nv.rest_le _ (fun k => (most_bd hl i k).2) _ _ (by decide)⟩
theorem wk0_loop {u : UnD} (hu : OkU u) : ∀ (i : Nat) (m : MpI) (lo : Int), i ≤ u.2.2.length → (∀ k, getL k 0 m = Nv.mostF ((sesOf u.2.2).drop i) k) → lo = Nv.longF ((sesOf u.2.2).drop i) →
    ∃ m', lim (SK0 eaW) (u, lo, allOf u.2.2, m, (i : Int) - 1, ()) = some (.inl (u, Nv.longF (sesOf u.2.2), m', ())) ∧ ∀ k, getL k 0 m' = Nv.mostF (sesOf u.2.2) k
  | 0, m, lo, _, hm, hlo => by
    rw [List.drop_zero] at hlo
    refine ⟨m, lim_end ?_, by simpa using hm⟩
    rw [SK0_eq, decide_eq_false (show ¬ ((0 : Nat) : Int) - 1 ≥ 0 by omega), cond_false, hlo]
  | i + 1, m, lo, hi, hm, hlo => by
    have hl := hu.len
    have e0 : (((i + 1 : Nat) : Int) - 1) = (i : Int) := by omega
    rw [e0]
    have hal : (allOf u.2.2).length = u.2.2.length := List.length_map _
    have hf := of_fine (segN u.2.2 i).2
    have hq : (OF (segN u.2.2 i).2).1.2.2.2.2.length ≤ 1000 := by have := hf.base.next; omega
    have hin := wk2_loop (u := u) (lo := lo) (all := allOf u.2.2) (m := m) (i := (i : Int)) hq (OF (segN u.2.2 i).2).1.2.2.2.2.length 0 0 (Nat.zero_add _)
    rw [List.drop_zero] at hin
    have hfold : fold (fun k => getL k 0 m) (OF (segN u.2.2 i).2).1.2.2.2.2 0 = Nv.rest (Nv.mostF ((sesOf u.2.2).drop (i + 1))) (OF (segN u.2.2 i).2).1.2.2.2.2 := Nv.rest_congr (fun k _ => hm k) 0
    rw [hfold] at hin
    have hin' : lim (SK2 eaW) (u, lo, allOf u.2.2, m, (i : Int), 0, (OF (segN u.2.2 i).2).1.2.2.2.2, ((OF (segN u.2.2 i).2).1.2.2.2.2.length : Int), 0, ()) = _ := hin
    have hb := rest_bd (l := u.2.2) hl (i + 1) (OF (segN u.2.2 i).2).1.2.2.2.2
    have hst := hf.st
    have hs : SK0 eaW (u, lo, allOf u.2.2, m, (i : Int), ()) = some (.inl (u, max lo (OF (segN u.2.2 i).2).1.2.2.1, allOf u.2.2, putL (segN u.2.2 i).1 ((OF (segN u.2.2 i).2).1.2.2.1 + Nv.rest (Nv.mostF ((sesOf u.2.2).drop (i + 1))) (OF (segN u.2.2 i).2).1.2.2.2.2) m, (i : Int) - 1, ())) := by
      rw [SK0_eq, decide_eq_true (show (i : Int) ≥ 0 by omega), cond_true, inR (show i < (allOf u.2.2).length by omega), cond_true, effAt_all (by omega), hin']
      show k0S u lo (allOf u.2.2) m (i : Int) (Nv.rest (Nv.mostF ((sesOf u.2.2).drop (i + 1))) (OF (segN u.2.2 i).2).1.2.2.2.2) = _
      unfold k0S
      rw [inR (show i < u.2.2.length by omega), inR (show i < (allOf u.2.2).length by omega), cond_true, cond_true, segAt_nat, hu.nm _ (seg_mem (by omega)), cond_true, cond_true, effAt_all (by omega), mx_eq, w64_small (show -9000000000000000000 ≤ (OF (segN u.2.2 i).2).1.2.2.1 + Nv.rest (Nv.mostF ((sesOf u.2.2).drop (i + 1))) (OF (segN u.2.2 i).2).1.2.2.2.2 by omega) (by omega), w64_small (show -9000000000000000000 ≤ (i : Int) - 1 by omega) (by omega)]
    obtain ⟨m', h1, h2⟩ := wk0_loop hu i (putL (segN u.2.2 i).1 ((OF (segN u.2.2 i).2).1.2.2.1 + Nv.rest (Nv.mostF ((sesOf u.2.2).drop (i + 1))) (OF (segN u.2.2 i).2).1.2.2.2.2) m) (max lo (OF (segN u.2.2 i).2).1.2.2.1) (by omega)
      (fun k => by rw [getL_put, hm k, ses_drop (show i < u.2.2.length by omega)]; rfl)
      (by rw [ses_drop (show i < u.2.2.length by omega), hlo]; simp only [Nv.longF]; omega)
    exact ⟨m', by rw [lim_next hs]; exact h1, h2⟩
noncomputable def workA (u : UnD) : Int × Int × Int := Nv.workP OF u.2.2
theorem F7_ok {u : UnD} (hu : OkU u) : F7 u = okIII (workA u).1 (workA u).2.1 (workA u).2.2 := by
  unfold F7 workA Nv.workP
  by_cases h1 : u.2.2.length = 0
  · rw [show ((u.2.2.length : Int) == 0) = true by simp [h1], cond_true, if_pos h1]
  rw [beq_eq_false_iff_ne.2 (show (u.2.2.length : Int) ≠ 0 by omega), cond_false, if_neg h1, eaW_ok hu]
  obtain ⟨A, hA, hA2⟩ := ansE_two (chk := fun _ => 0) (l := u.2.2)
  rw [hA]
  simp only
  have hl := hu.len
  by_cases h0 : (Nv.eachE OF (fun _ => 0) (u.2.2.map (·.1)) 0 u.2.2).2 = 0
  · rw [h0, show ((0 : Int) != 0) = false from rfl, cond_false, if_neg (by simp), hA2 h0]
    have e1 : w64 (((u.2.2.map fun s => (OF s.2).1).length : Int) - 1) = (u.2.2.length : Int) - 1 := by rw [List.length_map, w64_small (by omega) (by omega)]
    obtain ⟨m', g1, g2⟩ := wk0_loop hu u.2.2.length [] 0 (Nat.le_refl _) (fun k => by rw [List.drop_eq_nil_of_le (by simp [sesOf, Nv.effs])]; rfl) (by rw [List.drop_eq_nil_of_le (by simp [sesOf, Nv.effs])]; rfl)
    rw [e1, g1]
    simp only
    have i0 : inRange 0 u.2.2.length = true := inR (i := 0) (by omega)
    rw [i0, cond_true, g2]
    have e2 : (segAt u.2.2 0).1 = (u.2.2.headD (0, [])).1 := by unfold segAt; cases u.2.2 <;> rfl
    rw [e2]
  · rw [show ((Nv.eachE OF (fun _ => 0) (u.2.2.map (·.1)) 0 u.2.2).2 != 0) = true by simpa using h0, cond_true, if_pos h0]
/-! ### The reference's Unit -/
noncomputable def gR : GRf := ⟨OF, wdsOk, Nv.checkP decP, F24, F26, F27⟩
theorem okR (R : Type) : CallsOK Try.prog (callRf gR R) := callsE_ok tt_ok mixed names (fun fn s hs => by
  unfold specsRf at hs
  split at hs
  · cases hs; exact specL_ok fnOf7 (cntN 8 (by kernel_rfl))
  · cases hs; exact specL_ok fnChk12 (cntN 25 (by kernel_rfl))
  · cases hs; exact specL_ok fnNum (cntN 24 (by kernel_rfl))
  · cases hs; exact specL_ok fnReg (cntN 26 (by kernel_rfl))
  · cases hs; exact specL_ok fnNxt (cntN 27 (by kernel_rfl))
  · cases hs) 20
def outR (r : Int × Int) : Unit ⊕ (Int × Int × Unit) := if r.2 = 0 then .inl () else .inr (r.1, r.2, ())
theorem outR_err (n e : Int) (h : e ≠ 0) : outR (n, e) = .inr (n, e, ()) := by unfold outR; rw [if_neg h]
theorem lastN_succ (l : List SegD) (i : Nat) : lastN l (i + 1) = (segN l i).1 := by unfold lastN; rw [if_neg (by omega)]; rfl
theorem tk_ok {β : Type} {n : Int} {k : Int → Option β} : tk (okI n) k = k n := rfl
theorem ne0 {e : Int} (h : e ≠ 0) : (e == 0) = false := beq_eq_false_iff_ne.2 h
theorem ne0' {e : Int} (h : e ≠ 0) : (e != 0) = true := by simpa using h
theorem chk_reg (a b : Int) (fx : List Int) (f : Nv.Eff) : Nv.chkU a b fx f = if Nv.safeP f = false then 15 else regP f a b fx := rfl
theorem ru_loop {u : UnD} {a b : Int} {fx : List Int} (hu : OkU u) (hx1 : fx.length ≤ 10000000) (hx2 : wfL fx = true) : ∀ (n i : Nat), i + n = u.2.2.length → 0 ≤ lastN u.2.2 i →
    lim (SR0 gR) (a, b, fx, u, (i : Int), ()) = some (outR (Nv.eachE OF (Nv.chkU a b fx) (u.2.2.map (·.1)) (lastN u.2.2 i) (u.2.2.drop i)))
  | 0, i, h, _ => by
    refine lim_end ?_
    rw [SR0_eq, decide_eq_false (show ¬ (i : Int) < (u.2.2.length : Int) by omega), cond_false, List.drop_eq_nil_of_le (by omega)]; rfl
  | n + 1, i, h, hlast => by
    have hl := hu.len
    have hi : i < u.2.2.length := by omega
    have hnum := F24_ok hi (by omega) hlast
    rw [seg_drop hi, eachE_cons]
    have hwd := hu.wd _ (seg_mem hi)
    have hfi := of_fine (segN u.2.2 i).2
    have hst : SR0 gR (a, b, fx, u, (i : Int), ()) = tk (F24 u (i : Int)) (ru1 gR a b fx u (i : Int)) := by
      rw [SR0_eq, decide_eq_true (show (i : Int) < (u.2.2.length : Int) by omega), cond_true]; rfl
    have h4 : ∀ e, e ≠ 0 → ru4 a b fx u (i : Int) e = some (.inr (.inr ((segN u.2.2 i).1, e, ()))) := fun e he => by
      unfold ru4; rw [ne0' he, cond_true, inR hi, cond_true, segAt_nat]
    have h4' : ru4 a b fx u (i : Int) 0 = some (.inl (a, b, fx, u, ((i + 1 : Nat) : Int), ())) := by
      unfold ru4; rw [show ((0 : Int) != 0) = false from rfl, cond_false, w64_small (by omega) (by omega)]; rfl
    have h3 : ∀ e, e ≠ 0 → ru3 gR a b fx u (i : Int) (OF (segN u.2.2 i).2).1 e = some (.inr (.inr ((segN u.2.2 i).1, e, ()))) := fun e he => by
      unfold ru3; rw [ne0 he, cond_false, h4 e he]
    have h3' : ru3 gR a b fx u (i : Int) (OF (segN u.2.2 i).2).1 0 = ru4 a b fx u (i : Int) (Nv.nextC (u.2.2.map (·.1)) (segN u.2.2 i).1 (OF (segN u.2.2 i).2).1.2.2.2.2) := by
      unfold ru3
      rw [show ((0 : Int) == 0) = true from rfl, cond_true]
      show tk (F27 u (i : Int) (OF (segN u.2.2 i).2).1) _ = _
      rw [F27_ok hi (by omega) (by have := hfi.base.next; omega)]; rfl
    have h2 : ∀ e, ru2 gR a b fx u (i : Int) e = bif e == 0 then ru3 gR a b fx u (i : Int) (OF (segN u.2.2 i).2).1 (regP (OF (segN u.2.2 i).2).1 a b fx) else ru3 gR a b fx u (i : Int) (OF (segN u.2.2 i).2).1 e := fun e => by
      unfold ru2
      rw [inR hi, cond_true, segAt_nat]
      unfold rfOf
      refine (getQ_ok hwd).trans ?_
      show (bif e == 0 then tk (F26 (OF (segN u.2.2 i).2).1 a b fx) (ru3 gR a b fx u (i : Int) (OF (segN u.2.2 i).2).1) else _) = _
      rw [F26_ok (by have := hfi.base.rlen; omega) (by have := hfi.base.wlen; omega) (dCom_iff.2 ⟨⟨⟨by have := hfi.base.wlen; omega, hx1⟩, wfL_in hfi.base.win⟩, hx2⟩)]; rfl
    by_cases hbad : (segN u.2.2 i).1 ≤ lastN u.2.2 i ∨ (segN u.2.2 i).1 > 31
    · refine lim_end ?_
      rw [hst, hnum, if_pos hbad, tk_ok, if_pos hbad, outR_err _ _ (by decide)]
      unfold ru1
      rw [show ((2 : Int) == 0) = false from rfl, cond_false, h2, show ((2 : Int) == 0) = false from rfl, cond_false, h3 2 (by decide)]
    · rw [if_neg hbad] at hnum ⊢
      have h1 : SR0 gR (a, b, fx, u, (i : Int), ()) = ru2 gR a b fx u (i : Int) (Nv.checkP decP (segN u.2.2 i).2) := by
        rw [hst, hnum, tk_ok]
        unfold ru1
        rw [show ((0 : Int) == 0) = true from rfl, cond_true, inR hi, cond_true, segAt_nat]
        exact askQ_ok hwd
      have key : SR0 gR (a, b, fx, u, (i : Int), ()) = ru4 a b fx u (i : Int) (Nv.segE OF (Nv.chkU a b fx) (u.2.2.map (·.1)) (segN u.2.2 i)) := by
        rw [h1, h2]
        unfold Nv.segE Nv.checkP
        show (bif (if (OF (segN u.2.2 i).2).2.2 = 0 ∧ Nv.safeP (OF (segN u.2.2 i).2).1 = false then (15 : Int) else (OF (segN u.2.2 i).2).2.2) == 0 then _ else ru3 gR a b fx u (i : Int) (OF (segN u.2.2 i).2).1 (if (OF (segN u.2.2 i).2).2.2 = 0 ∧ Nv.safeP (OF (segN u.2.2 i).2).1 = false then (15 : Int) else (OF (segN u.2.2 i).2).2.2)) = _
        by_cases he : (OF (segN u.2.2 i).2).2.2 = 0
        · have hno9 : ¬ (OF (segN u.2.2 i).2).2.2 ≠ 0 := fun h => h he
          rw [if_neg hno9, chk_reg]
          cases hs : Nv.safeP (OF (segN u.2.2 i).2).1 with
          | false =>
            rw [if_pos ⟨he, rfl⟩, show ((15 : Int) == 0) = false from rfl, cond_false, h3 15 (by decide), if_pos rfl, if_pos (by decide), h4 15 (by decide)]
          | true =>
            have hno1 : ¬ ((OF (segN u.2.2 i).2).2.2 = 0 ∧ true = false) := by simp
            rw [if_neg hno1, he, show ((0 : Int) == 0) = true from rfl, cond_true, if_neg (show ¬ true = false by simp)]
            by_cases hr : regP (OF (segN u.2.2 i).2).1 a b fx = 0
            · rw [hr, h3', if_neg (show ¬ (0 : Int) ≠ 0 by simp)]
            · rw [h3 _ hr, if_pos hr, h4 _ hr]
        · have hno1 : ¬ ((OF (segN u.2.2 i).2).2.2 = 0 ∧ Nv.safeP (OF (segN u.2.2 i).2).1 = false) := fun h => he h.1
          rw [if_neg hno1, ne0 he, cond_false, h3 _ he, if_pos he, h4 _ he]
      by_cases h0 : Nv.segE OF (Nv.chkU a b fx) (u.2.2.map (·.1)) (segN u.2.2 i) = 0
      · rw [h0, h4'] at key
        rw [lim_next key, ru_loop hu hx1 hx2 n (i + 1) (by omega) (by rw [lastN_succ]; omega), if_neg (fun h => h h0), lastN_succ]
      · rw [h4 _ h0] at key
        rw [if_pos h0, outR_err _ _ h0]
        exact lim_end key
noncomputable def F10 (u : UnD) (a b : Int) (fx : List Int) : OII := pre9 u a b (match lim (SR0 gR) (a, b, fx, u, 0, ()) with
    | none => none
    | some (.inl _) => okII 0 0
    | some (.inr y) => okII y.1 y.2.1)
theorem fn10 : FnT Try.prog 10 sUn4 rII fun x => F10 x.1 x.2.1 x.2.2.1 x.2.2.2.1 := mkT fun x y h => by
  obtain ⟨u, a, b, fx, ⟨⟩⟩ := x
  exact ⟨_, okR, _, _, (e10u_eq gR u a b fx).trans h⟩
theorem eachE_fst {of : List Int → Nv.Eff × Int × Int} {chk : Nv.Eff → Int} {ks : List Int} : ∀ (l : List SegD) (last : Int), (Nv.eachE of chk ks last l).2 = 0 → (Nv.eachE of chk ks last l).1 = 0
  | [], _, _ => rfl
  | s :: r, last, hh => by
    rw [eachE_cons] at hh ⊢
    split at hh
    · simp at hh
    · rename_i c1
      rw [if_neg c1]
      split at hh
      · rename_i c2; exact absurd hh c2
      · rename_i c2
        rw [if_neg c2]; exact eachE_fst r _ hh
theorem F10_ok {u : UnD} {a b : Int} {fx : List Int} (hu : OkU u) (h1 : fx.length ≤ 10000000) (h2 : wfL fx = true) : F10 u a b fx = okII (unitA u a b fx).1 (unitA u a b fx).2 := by
  unfold F10
  refine pre9_ok ?_
  have h := ru_loop (a := a) (b := b) hu h1 h2 u.2.2.length 0 (Nat.zero_add _) (Int.le_refl _)
  rw [List.drop_zero] at h
  have h' : lim (SR0 gR) (a, b, fx, u, 0, ()) = some (outR (Nv.eachE OF (Nv.chkU a b fx) (u.2.2.map (·.1)) 0 u.2.2)) := h
  rw [h']
  unfold outR
  by_cases h0 : (Nv.eachE OF (Nv.chkU a b fx) (u.2.2.map (·.1)) 0 u.2.2).2 = 0
  · rw [if_pos h0, h0, eachE_fst _ _ h0]
  · rw [if_neg h0]
end Go.Pv.Sg
/-! ### The reference's Work: what it computes. The laws EffectUnit and EffectPath return true. -/
namespace Go.Pv.Sg
open Go.Proofs
set_option maxRecDepth 1000000
theorem arr_tab (a : Arr) (v : Int) : ((List.range 32).map fun x => (List.range 32).map fun k => arrG (arrS a x v) k) = (List.range 32).map fun x => (List.range 32).map fun k => bif Nat.beq k x then v else arrG a k := by kernel_rfl
theorem arr_set {a : Arr} {v : Int} {x k : Nat} (hx : x < 32) (hk : k < 32) : arrG (arrS a x v) k = if k = x then v else arrG a k := by
  have h := congrArg (fun L => (L.getD x []).getD k 0) (arr_tab a v)
  simp only [List.getD_eq_getElem?_getD, List.getElem?_map, List.getElem?_range hx, List.getElem?_range hk, Option.map_some, Option.getD_some] at h
  rw [h]
  by_cases e : k = x
  · subst e; rw [if_pos rfl, Nat.beq_refl]; rfl
  · rw [if_neg e, show Nat.beq k x = false by
      cases hq : Nat.beq k x with
      | false => rfl
      | true => exact absurd (Nat.eq_of_beq_eq_true hq) e]; rfl
theorem arr_zero : ((List.range 32).map fun k => arrG arrZ k) = (List.range 32).map fun _ => 0 := by decide +kernel
theorem inR32 {v : Int} (h : 0 ≤ v ∧ v < 32) : inRange v 32 = true := by simp [inRange]; omega
theorem arrZ_get {k : Nat} (hk : k < 32) : arrG arrZ k = 0 := by
  have h := congrArg (fun L => L.getD k 5) arr_zero
  simp only [List.getD_eq_getElem?_getD, List.getElem?_map, List.getElem?_range hk, Option.map_some, Option.getD_some] at h
  exact h
/-! ### The reference's Work: the first loop -/
theorem longF_snoc (s : Nv.SE) : ∀ l : List Nv.SE, Nv.longF (l ++ [s]) = max (Nv.longF l) s.2.2.2.1
  | [] => by simp only [List.nil_append, Nv.longF]; omega
  | x :: r => by simp only [List.cons_append, Nv.longF, longF_snoc s r]; omega
theorem take_snoc {l : List SegD} {i : Nat} (h : i < l.length) : l.take (i + 1) = l.take i ++ [segN l i] := by
  rw [List.take_succ_eq_append_getElem h]; simp [segN, List.getD, h]
def outW (u : UnD) (lo : Int) (all : List Eff5) (r : Int × Int) : YW0 ⊕ (Int × Int × Int × Unit) := if r.2 = 0 then .inl (u, lo, all, ()) else .inr (0, 0, r.2, ())
theorem outW_err {u : UnD} {lo : Int} {all : List Eff5} {n e : Int} (h : e ≠ 0) : outW u lo all (n, e) = .inr (0, 0, e, ()) := by unfold outW; rw [if_neg h]
theorem rv_loop {u : UnD} (hu : OkU u) : ∀ (n i : Nat), i + n = u.2.2.length → 0 ≤ lastN u.2.2 i →
    lim (SV0 gR) (u, Nv.longF (sesOf (u.2.2.take i)), allOf (u.2.2.take i), (i : Int), ()) = some (outW u (Nv.longF (sesOf u.2.2)) (allOf u.2.2) (Nv.eachE OF (fun _ => 0) (u.2.2.map (·.1)) (lastN u.2.2 i) (u.2.2.drop i)))
  | 0, i, h, _ => by
    refine lim_end ?_
    rw [SV0_eq, decide_eq_false (show ¬ (i : Int) < (u.2.2.length : Int) by omega), cond_false, List.drop_eq_nil_of_le (by omega), List.take_of_length_le (by omega)]; rfl
  | n + 1, i, h, hlast => by
    have hl := hu.len
    have hi : i < u.2.2.length := by omega
    have hnum := F24_ok hi (by omega) hlast
    rw [seg_drop hi, eachE_cons]
    have hwd := hu.wd _ (seg_mem hi)
    have hfi := of_fine (segN u.2.2 i).2
    generalize hlo : Nv.longF (sesOf (u.2.2.take i)) = lo
    generalize hall : allOf (u.2.2.take i) = all
    have hst : SV0 gR (u, lo, all, (i : Int), ()) = tk (F24 u (i : Int)) (rv1 gR u lo all (i : Int)) := by
      rw [SV0_eq, decide_eq_true (show (i : Int) < (u.2.2.length : Int) by omega), cond_true]; rfl
    have h3 : ∀ e, e ≠ 0 → rv3 u lo all (i : Int) (OF (segN u.2.2 i).2).1 e = some (.inr (.inr (0, 0, e, ()))) := fun e he => by
      unfold rv3; rw [ne0' he, cond_true]
    have h3' : rv3 u lo all (i : Int) (OF (segN u.2.2 i).2).1 0 = some (.inl (u, Nv.longF (sesOf (u.2.2.take (i + 1))), allOf (u.2.2.take (i + 1)), ((i + 1 : Nat) : Int), ())) := by
      unfold rv3
      have hal : all.length ≤ 40 := by rw [← hall]; simp [allOf]; omega
      rw [show ((0 : Int) != 0) = false from rfl, cond_false, app_ok (by rw [List.length_append]; simp only [List.length_cons, List.length_nil]; omega), w64_small (by omega) (by omega), take_snoc hi, mx_eq]
      unfold allOf sesOf Nv.effs at *
      rw [List.map_append, List.map_append, List.map_cons, List.map_cons, List.map_nil, List.map_nil, longF_snoc, hlo, hall]; rfl
    have h2 : ∀ e, e ≠ 0 → rv2 gR u lo all (i : Int) (OF (segN u.2.2 i).2).1 e = some (.inr (.inr (0, 0, e, ()))) := fun e he => by
      unfold rv2; rw [ne0 he, cond_false, h3 e he]
    have h2' : rv2 gR u lo all (i : Int) (OF (segN u.2.2 i).2).1 0 = rv3 u lo all (i : Int) (OF (segN u.2.2 i).2).1 (Nv.nextC (u.2.2.map (·.1)) (segN u.2.2 i).1 (OF (segN u.2.2 i).2).1.2.2.2.2) := by
      unfold rv2
      rw [show ((0 : Int) == 0) = true from rfl, cond_true]
      show tk (F27 u (i : Int) (OF (segN u.2.2 i).2).1) _ = _
      rw [F27_ok hi (by omega) (by have := hfi.base.next; omega)]; rfl
    have h1 : ∀ e, rv1 gR u lo all (i : Int) e = bif e == 0 then rv2 gR u lo all (i : Int) (OF (segN u.2.2 i).2).1 (OF (segN u.2.2 i).2).2.2 else rv2 gR u lo all (i : Int) (OF (segN u.2.2 i).2).1 e := fun e => by
      unfold rv1
      rw [inR hi, cond_true, segAt_nat]
      unfold rfOf
      exact getQ_ok hwd
    by_cases hbad : (segN u.2.2 i).1 ≤ lastN u.2.2 i ∨ (segN u.2.2 i).1 > 31
    · refine lim_end ?_
      rw [hst, hnum, if_pos hbad, tk_ok, if_pos hbad, outW_err (by decide), h1, show ((2 : Int) == 0) = false from rfl, cond_false, h2 2 (by decide)]
    · rw [if_neg hbad] at hnum ⊢
      have key : SV0 gR (u, lo, all, (i : Int), ()) = rv3 u lo all (i : Int) (OF (segN u.2.2 i).2).1 (Nv.segE OF (fun _ => 0) (u.2.2.map (·.1)) (segN u.2.2 i)) := by
        rw [hst, hnum, tk_ok, h1, show ((0 : Int) == 0) = true from rfl, cond_true]
        unfold Nv.segE
        by_cases he : (OF (segN u.2.2 i).2).2.2 = 0
        · have hno9 : ¬ (OF (segN u.2.2 i).2).2.2 ≠ 0 := fun h => h he
          rw [if_neg hno9, he, h2', if_neg (show ¬ (0 : Int) ≠ 0 by simp)]
        · rw [if_pos he, h2 _ he, h3 _ he]
      by_cases h0 : Nv.segE OF (fun _ => 0) (u.2.2.map (·.1)) (segN u.2.2 i) = 0
      · rw [h0, h3'] at key
        rw [lim_next key, rv_loop hu n (i + 1) (by omega) (by rw [lastN_succ]; omega), if_neg (fun h => h h0), lastN_succ]
      · rw [h3 _ h0] at key
        rw [if_pos h0, outW_err h0]
        exact lim_end key
/-! ### The second loop -/
theorem rw4_loop {u : UnD} {lo : Int} {a : Arr} {l : List SegD} {i : Nat} (hi : i < l.length) (hq : (OF (segN l i).2).1.2.2.2.2.length ≤ 1000) (hr : ∀ k ∈ (OF (segN l i).2).1.2.2.2.2, 0 ≤ k ∧ k < 32) :
    ∀ (n j : Nat) (r : Int), j + n = (OF (segN l i).2).1.2.2.2.2.length → lim (SV4 gR) (u, lo, allOf l, a, (i : Int), r, (j : Int), ()) = some (.inl (u, lo, allOf l, a, (i : Int), fold (fun k => arrG a k.toNat) ((OF (segN l i).2).1.2.2.2.2.drop j) r, ()))
  | 0, j, r, h => by
    refine lim_end ?_
    have hal : (allOf l).length = l.length := List.length_map _
    rw [SV4_eq, inR (show i < (allOf l).length by omega), cond_true, effAt_all hi]
    unfold rv4
    rw [decide_eq_false (show ¬ (j : Int) < ((OF (segN l i).2).1.2.2.2.2.length : Int) by omega), cond_false, List.drop_eq_nil_of_le (by omega)]; rfl
  | n + 1, j, r, h => by
    have hal : (allOf l).length = l.length := List.length_map _
    have hm := hr _ (getD_mem (l := (OF (segN l i).2).1.2.2.2.2) (show j < _ by omega))
    have hin : inRange ((OF (segN l i).2).1.2.2.2.2.getD j 0) 32 = true := inR32 hm
    have hs : SV4 gR (u, lo, allOf l, a, (i : Int), r, (j : Int), ()) = some (.inl (u, lo, allOf l, a, (i : Int), max r (arrG a ((OF (segN l i).2).1.2.2.2.2.getD j 0).toNat), ((j + 1 : Nat) : Int), ())) := by
      rw [SV4_eq, inR (show i < (allOf l).length by omega), cond_true, effAt_all hi]
      unfold rv4
      rw [decide_eq_true (show (j : Int) < ((OF (segN l i).2).1.2.2.2.2.length : Int) by omega), cond_true, inR (show i < (allOf l).length by omega), cond_true, inR (show j < _ by omega), cond_true, Int.toNat_natCast, hin, cond_true, mx_eq, w64_small (by omega) (by omega)]; rfl
    rw [lim_next hs, rw4_loop hi hq hr n (j + 1) _ (by omega), drop_cons (show j < (OF (segN l i).2).1.2.2.2.2.length by omega)]; rfl
theorem rw2_loop {u : UnD} (hu : OkU u) (hok : Nv.OkSegs OF (u.2.2.map (·.1)) 0 u.2.2) (lo : Int) : ∀ (i : Nat) (a : Arr), i ≤ u.2.2.length → (∀ k : Nat, k < 32 → arrG a k = Nv.mostF ((sesOf u.2.2).drop i) (k : Int)) →
    ∃ a', lim (SV2 gR) (u, lo, allOf u.2.2, a, (i : Int) - 1, ()) = some (.inl (u, lo, a', ())) ∧ ∀ k : Nat, k < 32 → arrG a' k = Nv.mostF (sesOf u.2.2) (k : Int)
  | 0, a, _, ha => by
    refine ⟨a, lim_end ?_, by simpa using ha⟩
    rw [SV2_eq, decide_eq_false (show ¬ ((0 : Nat) : Int) - 1 ≥ 0 by omega), cond_false]
  | i + 1, a, hi, ha => by
    have hl := hu.len
    have e0 : (((i + 1 : Nat) : Int) - 1) = (i : Int) := by omega
    rw [e0]
    have hal : (allOf u.2.2).length = u.2.2.length := List.length_map _
    have hf := of_fine (segN u.2.2 i).2
    obtain ⟨g1, g2, g3, g4⟩ := hok.gt _ (seg_mem (show i < u.2.2.length by omega))
    have hr : ∀ k ∈ (OF (segN u.2.2 i).2).1.2.2.2.2, 0 ≤ k ∧ k < 32 := fun k hk => by
      obtain ⟨q1, q2⟩ := g4 k hk
      obtain ⟨s, hs, rfl⟩ := List.mem_map.1 q2
      have := hok.gt s hs
      omega
    have hq : (OF (segN u.2.2 i).2).1.2.2.2.2.length ≤ 1000 := by have := hf.base.next; omega
    have hin := rw4_loop (u := u) (lo := lo) (a := a) (show i < u.2.2.length by omega) hq hr (OF (segN u.2.2 i).2).1.2.2.2.2.length 0 0 (Nat.zero_add _)
    rw [List.drop_zero] at hin
    have hfold : fold (fun k => arrG a k.toNat) (OF (segN u.2.2 i).2).1.2.2.2.2 0 = Nv.rest (Nv.mostF ((sesOf u.2.2).drop (i + 1))) (OF (segN u.2.2 i).2).1.2.2.2.2 := Nv.rest_congr (fun k hk => by
      have := hr k hk
      rw [ha k.toNat (by omega), Int.toNat_of_nonneg this.1]) 0
    rw [hfold] at hin
    have hin' : lim (SV4 gR) (u, lo, allOf u.2.2, a, (i : Int), 0, 0, ()) = _ := hin
    have hb := rest_bd (l := u.2.2) hl (i + 1) (OF (segN u.2.2 i).2).1.2.2.2.2
    have hst := hf.st
    have hnr : inRange (segN u.2.2 i).1 32 = true := inR32 ⟨by omega, by omega⟩
    have hs : SV2 gR (u, lo, allOf u.2.2, a, (i : Int), ()) = some (.inl (u, lo, allOf u.2.2, arrS a (segN u.2.2 i).1.toNat ((OF (segN u.2.2 i).2).1.2.2.1 + Nv.rest (Nv.mostF ((sesOf u.2.2).drop (i + 1))) (OF (segN u.2.2 i).2).1.2.2.2.2), (i : Int) - 1, ())) := by
      rw [SV2_eq, decide_eq_true (show (i : Int) ≥ 0 by omega), cond_true, hin']
      show rv5 u lo (allOf u.2.2) a (i : Int) (Nv.rest (Nv.mostF ((sesOf u.2.2).drop (i + 1))) (OF (segN u.2.2 i).2).1.2.2.2.2) = _
      unfold rv5
      rw [inR (show i < u.2.2.length by omega), inR (show i < (allOf u.2.2).length by omega), cond_true, cond_true, segAt_nat, hnr, cond_true, effAt_all (by omega), w64_small (show -9000000000000000000 ≤ (OF (segN u.2.2 i).2).1.2.2.1 + Nv.rest (Nv.mostF ((sesOf u.2.2).drop (i + 1))) (OF (segN u.2.2 i).2).1.2.2.2.2 by omega) (by omega), w64_small (show -9000000000000000000 ≤ (i : Int) - 1 by omega) (by omega)]
    obtain ⟨a', h1, h2⟩ := rw2_loop hu hok lo i _ (by omega) (fun k hk => by
      rw [arr_set (show (segN u.2.2 i).1.toNat < 32 by omega) hk, ha k hk, ses_drop (show i < u.2.2.length by omega)]
      show _ = if (k : Int) = (segN u.2.2 i).1 then _ else _
      by_cases e : k = (segN u.2.2 i).1.toNat
      · rw [if_pos e, if_pos (by omega)]
      · rw [if_neg e, if_neg (by omega)])
    exact ⟨a', by rw [lim_next hs]; exact h1, h2⟩
noncomputable def F11 (u : UnD) : OIII := bif (u.2.2.length : Int) == 0 then okIII 0 0 2 else match lim (SV0 gR) (u, 0, [], 0, ()) with
    | none => none
    | some (.inl y) => (match lim (SV2 gR) (y.1, y.2.1, y.2.2.1, arrZ, w64 ((y.2.2.1.length : Int) - 1), ()) with
      | none => none
      | some (.inl z) => bif inRange 0 z.1.2.2.length then bif inRange (segAt z.1.2.2 0).1 32 then okIII (arrG z.2.2.1 (segAt z.1.2.2 0).1.toNat) z.2.1 0 else none else none
      | some (.inr _) => none)
    | some (.inr y) => okIII y.1 y.2.1 y.2.2.1
theorem fn11 : FnT Try.prog 11 [.agg tUn] rIII fun x => F11 x.1 := mkT fun x y h => by
  obtain ⟨u, ⟨⟩⟩ := x
  exact ⟨_, okR, _, _, (e11u_eq gR u).trans h⟩
theorem F11_ok {u : UnD} (hu : OkU u) : F11 u = okIII (workA u).1 (workA u).2.1 (workA u).2.2 := by
  unfold F11 workA Nv.workP
  by_cases h1 : u.2.2.length = 0
  · rw [show ((u.2.2.length : Int) == 0) = true by simp [h1], cond_true, if_pos h1]
  rw [beq_eq_false_iff_ne.2 (show (u.2.2.length : Int) ≠ 0 by omega), cond_false, if_neg h1]
  have hl := hu.len
  have h := rv_loop hu u.2.2.length 0 (Nat.zero_add _) (Int.le_refl _)
  have h' : lim (SV0 gR) (u, 0, [], 0, ()) = some (outW u (Nv.longF (sesOf u.2.2)) (allOf u.2.2) (Nv.eachE OF (fun _ => 0) (u.2.2.map (·.1)) 0 u.2.2)) := h
  rw [h']
  unfold outW
  by_cases h0 : (Nv.eachE OF (fun _ => 0) (u.2.2.map (·.1)) 0 u.2.2).2 = 0
  · rw [if_pos h0, h0, if_neg (show ¬ (0 : Int) ≠ 0 by simp)]
    simp only
    have hok := Nv.eachE_ok h0
    have hal : (allOf u.2.2).length = u.2.2.length := List.length_map _
    have e1 : w64 (((allOf u.2.2).length : Int) - 1) = (u.2.2.length : Int) - 1 := by rw [hal, w64_small (by omega) (by omega)]
    obtain ⟨a', g1, g2⟩ := rw2_loop hu hok (Nv.longF (sesOf u.2.2)) u.2.2.length arrZ (Nat.le_refl _) (fun k hk => by rw [List.drop_eq_nil_of_le (by simp [sesOf, Nv.effs]), arrZ_get hk]; rfl)
    rw [e1, g1]
    simp only
    have i0 : inRange 0 u.2.2.length = true := inR (i := 0) (by omega)
    obtain ⟨q1, q2, _, _⟩ := hok.gt _ (seg_mem (show 0 < u.2.2.length by omega))
    have e2 : segAt u.2.2 0 = segN u.2.2 0 := rfl
    have hnr : inRange (segN u.2.2 0).1 32 = true := inR32 ⟨by omega, by omega⟩
    rw [i0, cond_true, e2, hnr, cond_true, g2 _ (by omega), Int.toNat_of_nonneg (by omega)]
    have e3 : (segN u.2.2 0).1 = (u.2.2.headD (0, [])).1 := by unfold segN; cases u.2.2 <;> rfl
    rw [e3]
  · rw [if_neg h0, if_pos h0]
/-! ### The law EffectUnit -/
noncomputable def gQ : GQ := ⟨unP, dUnP, F9, F10, F7, F11, OF, wdsOk⟩
theorem okQ (R : Type) : CallsOK Try.prog (callQ gQ R) := callsE_ok tt_ok mixed names (fun fn s hs => by
  unfold specsQ at hs
  split at hs
  · cases hs; exact specL_ok fnLive14 (cntN 5 (by kernel_rfl))
  · cases hs; exact specT_ok fnUn (cntN 6 (by kernel_rfl))
  · cases hs; exact specL_ok fn7 (cntN 7 (by kernel_rfl))
  · cases hs; exact specL_ok fnOf7 (cntN 8 (by kernel_rfl))
  · cases hs; exact specL_ok fn9 (cntN 9 (by kernel_rfl))
  · cases hs; exact specL_ok fn10 (cntN 10 (by kernel_rfl))
  · cases hs; exact specL_ok fn11 (cntN 11 (by kernel_rfl))
  · cases hs) 20
/-- what comes in -/
structure OkP (p : PgD) : Prop where
  codes : ∀ c ∈ p.2.1, wdsOk c = true ∧ short big9 c = true
  nums : wfL p.1 = true
  flen : p.2.2.2.2.length ≤ 10000000
  fix : wfL p.2.2.2.2 = true
theorem segsP_len (p : PgD) : ∀ n i, (segsP p n i).length = n
  | 0, _ => rfl
  | n + 1, i => by simp only [segsP, List.length_cons, segsP_len p n (i + 1)]
theorem segsP_mem {p : PgD} : ∀ {n i : Nat} {s : SegD}, s ∈ segsP p n i → ∃ j, i ≤ j ∧ j < i + n ∧ s = (p.1.getD j 0, p.2.1.getD j [])
  | 0, _, _, h => by cases h
  | n + 1, i, s, h => by
    simp only [segsP] at h
    rcases List.mem_cons.1 h with rfl | h
    · exact ⟨i, Nat.le_refl _, by omega, rfl⟩
    · obtain ⟨j, h1, h2, h3⟩ := segsP_mem h
      exact ⟨j, by omega, by omega, h3⟩
theorem unP_ok {p : PgD} (hp : OkP p) (hl : p.2.1.length ≤ 40) : OkU (unP p) := by
  refine ⟨by show (segsP p p.2.1.length 0).length ≤ 40; rw [segsP_len]; exact hl, fun s hs => ?_, fun s hs => ?_⟩
  · obtain ⟨j, _, h2, rfl⟩ := segsP_mem (show s ∈ segsP p p.2.1.length 0 from hs)
    have : p.2.1.getD j [] ∈ p.2.1 := by rw [show p.2.1.getD j [] = p.2.1[j]'(by omega) by simp [List.getD, show j < p.2.1.length by omega]]; exact List.getElem_mem _
    exact (hp.codes _ this).1
  · obtain ⟨j, _, h2, rfl⟩ := segsP_mem (show s ∈ segsP p p.2.1.length 0 from hs)
    show wfI (p.1.getD j 0) = true
    by_cases hj : j < p.1.length
    · exact wfL_get hp.nums hj
    · rw [show p.1.getD j 0 = 0 by simp [List.getD, show p.1.length ≤ j by omega]]
      exact wfI_small (by decide) (by decide)
theorem dUnP_ok {p : PgD} (hp : OkP p) (hl : p.2.1.length ≤ 40) : dUnP p = true := by
  simp only [dUnP, Bool.and_eq_true]
  exact ⟨Nat.ble_eq_true_of_le (by omega), List.all_eq_true.2 fun c hc => (hp.codes c hc).2⟩
theorem tk2_ok {α β γ : Type} {a : α} {b : β} {k : α → β → Option γ} : tk2 (some (a, b)) k = k a b := rfl
theorem unit_true {p : PgD} (hp : OkP p) : evalT Try.prog tt (callQ gQ) [] [] 4 sPg rB1 (p, ()) = some (true, ()) := by
  rw [e4_eq]
  by_cases hl : p.2.1.length ≤ 40
  · have hno : ¬ (p.2.1.length : Int) > 40 := by omega
    rw [decide_eq_false hno, cond_false]
    have hu := unP_ok hp hl
    have hd : gQ.dUn p = true := dUnP_ok hp hl
    have e9 : gQ.u9 (gQ.un p) p.2.2.1 p.2.2.2.1 p.2.2.2.2 = _ := F9_ok (a := p.2.2.1) (b := p.2.2.2.1) hu hp.flen hp.fix
    have e10 : gQ.u10 (gQ.un p) p.2.2.1 p.2.2.2.1 p.2.2.2.2 = _ := F10_ok (a := p.2.2.1) (b := p.2.2.2.1) hu hp.flen hp.fix
    have e7 : gQ.w7 (gQ.un p) = _ := F7_ok hu
    have e11 : gQ.w11 (gQ.un p) = _ := F11_ok hu
    have q : ∀ {β : Type} (k : UnD → Option β), unQ gQ p k = k (gQ.un p) := fun k => askQ_ok hd
    rw [q, e9]
    unfold okII
    rw [tk2_ok, q, e10]
    unfold okII
    rw [tk2_ok, q, e7]
    unfold okIII
    rw [tk2_ok, q, e11]
    unfold okIII
    rw [tk2_ok]
    exact (andQ_ok (ieq_self _)).trans ((andQ_ok (ieq_self _)).trans ((andQ_ok (ieq_self _)).trans ((andQ_ok (ieq_self _)).trans (andQ_ok (ieq_self _)))))
  · rw [decide_eq_true (show (p.2.1.length : Int) > 40 by omega), cond_true]; rfl
/-! ### The law EffectPath -/
noncomputable def scanP (now : Int) : List SegD → Int × List Int × Bool → Int × List Int × Bool
  | [], x => x
  | s :: r, x => if s.1 = now then scanP now r (x.1 + (OF s.2).1.2.2.1, (OF s.2).1.2.2.2.2, true) else scanP now r x
theorem scanP_no {now : Int} : ∀ {l : List SegD} {x : Int × List Int × Bool}, (∀ s ∈ l, s.1 ≠ now) → scanP now l x = x
  | [], _, _ => rfl
  | s :: r, x, h => by
    simp only [scanP]
    rw [if_neg (h s (by simp)), scanP_no fun s hs => h s (by simp [hs])]
theorem scanP_ok {now : Int} : ∀ {l : List SegD} {x : Int × List Int × Bool} {s : SegD}, l.Pairwise (fun a b => a.1 < b.1) → s ∈ l → s.1 = now → scanP now l x = (x.1 + (OF s.2).1.2.2.1, (OF s.2).1.2.2.2.2, true)
  | [], _, _, _, h, _ => by cases h
  | y :: r, x, s, hp, h, e => by
    obtain ⟨p1, p2⟩ := List.pairwise_cons.1 hp
    simp only [scanP]
    rcases List.mem_cons.1 h with rfl | h
    · rw [if_pos e, scanP_no fun t ht => by have := p1 t ht; omega]
    · have := p1 s h
      rw [if_neg (by omega), scanP_ok p2 h e]
theorem sp2_loop {u : UnD} {ch : List Bool} {most lo now k : Int} (hu : OkU u) (hok : Nv.OkSegs OF (u.2.2.map (·.1)) 0 u.2.2) (hlo : ∀ s ∈ u.2.2, (OF s.2).1.2.2.1 ≤ lo) : ∀ (n i : Nat) (x : Int × List Int × Bool), i + n = u.2.2.length →
    0 ≤ x.1 → x.1 ≤ 1000000 + 3000 * (i : Int) → lim (SP2 gQ) (ch, u, most, lo, x.1, now, k, x.2.1, x.2.2, (i : Int), ()) = some (.inl (ch, u, most, lo, (scanP now (u.2.2.drop i) x).1, now, k, (scanP now (u.2.2.drop i) x).2.1, (scanP now (u.2.2.drop i) x).2.2, ()))
  | 0, i, x, h, _, _ => by
    refine lim_end ?_
    rw [SP2_eq, decide_eq_false (show ¬ (i : Int) < (u.2.2.length : Int) by omega), cond_false, List.drop_eq_nil_of_le (by omega)]; rfl
  | n + 1, i, x, h, hx0, hx1 => by
    have hl := hu.len
    have hi : i < u.2.2.length := by omega
    rw [seg_drop hi]
    simp only [scanP]
    have hst := (of_fine (segN u.2.2 i).2).st
    by_cases e : (segN u.2.2 i).1 = now
    · rw [if_pos e]
      obtain ⟨_, _, g3, _⟩ := hok.gt _ (seg_mem hi)
      have hb := hlo _ (seg_mem hi)
      have hno : ¬ (OF (segN u.2.2 i).2).1.2.2.1 > lo := by omega
      have hs : SP2 gQ (ch, u, most, lo, x.1, now, k, x.2.1, x.2.2, (i : Int), ()) = some (.inl (ch, u, most, lo, x.1 + (OF (segN u.2.2 i).2).1.2.2.1, now, k, (OF (segN u.2.2 i).2).1.2.2.2.2, true, ((i + 1 : Nat) : Int), ())) := by
        rw [SP2_eq, decide_eq_true (show (i : Int) < (u.2.2.length : Int) by omega), cond_true, inR hi, cond_true, segAt_nat, show ((segN u.2.2 i).1 == now) = true by simpa using e, cond_true, cond_true]
        unfold ofK
        refine (getQ_ok (hu.wd _ (seg_mem hi))).trans ?_
        show (bif (OF (segN u.2.2 i).2).2.2 != 0 then _ else bif decide ((OF (segN u.2.2 i).2).1.2.2.1 > lo) then _ else some (Sum.inl (ch, u, most, lo, w64 (x.1 + (OF (segN u.2.2 i).2).1.2.2.1), now, k, (OF (segN u.2.2 i).2).1.2.2.2.2, true, w64 ((i : Int) + 1), ()))) = _
        rw [g3, show ((0 : Int) != 0) = false from rfl, cond_false, decide_eq_false hno, cond_false, w64_small (show -9000000000000000000 ≤ x.1 + (OF (segN u.2.2 i).2).1.2.2.1 by omega) (by omega), w64_small (by omega) (by omega)]; rfl
      rw [lim_next hs]
      exact sp2_loop hu hok hlo n (i + 1) (x.1 + (OF (segN u.2.2 i).2).1.2.2.1, (OF (segN u.2.2 i).2).1.2.2.2.2, true) (by omega) (by simp only; omega) (by simp only; omega)
    · rw [if_neg e]
      have hs : SP2 gQ (ch, u, most, lo, x.1, now, k, x.2.1, x.2.2, (i : Int), ()) = some (.inl (ch, u, most, lo, x.1, now, k, x.2.1, x.2.2, ((i + 1 : Nat) : Int), ())) := by
        rw [SP2_eq, decide_eq_true (show (i : Int) < (u.2.2.length : Int) by omega), cond_true, inR hi, cond_true, segAt_nat, ne0f e, cond_false, w64_small (by omega) (by omega)]; rfl
      rw [lim_next hs]
      exact sp2_loop hu hok hlo n (i + 1) x (by omega) hx0 (by omega)
where ne0f {a b : Int} (h : a ≠ b) : (a == b) = false := beq_eq_false_iff_ne.2 h
/-- one segment after the other -/
theorem sp0_loop {u : UnD} {ch : List Bool} (hu : OkU u) (hok : Nv.OkSegs OF (u.2.2.map (·.1)) 0 u.2.2) {lo : Int} (hlo : ∀ s ∈ u.2.2, (OF s.2).1.2.2.1 ≤ lo) {most : Int} (hmost : most ≤ 120000) :
    ∀ (n : Nat) (k : Nat) (tot now : Int), k + n = 32 → (k : Int) + 1 ≤ now → (∃ s ∈ u.2.2, s.1 = now) → 0 ≤ tot → tot + Nv.mostF (sesOf u.2.2) now ≤ most →
      lim (SP0 gQ) (ch, u, most, lo, tot, now, (k : Int), ()) = some (.inr (true, ()))
  | 0, k, tot, now, h, hk, hs, _, _ => by
    obtain ⟨s, hs, rfl⟩ := hs
    have := hok.gt s hs
    omega
  | n + 1, k, tot, now, h, hk, hs, ht, hm => by
    obtain ⟨s, hsm, rfl⟩ := hs
    have hl := hu.len
    obtain ⟨g1, g2, g3, g4⟩ := hok.gt s hsm
    obtain ⟨m1, m2⟩ := Nv.most_step hok s hsm
    have hge := (most_bd (l := u.2.2) hl 0 s.1).1
    rw [List.drop_zero] at hge
    have hf := of_fine s.2
    have hst := hf.st
    have hin := sp2_loop (ch := ch) (most := most) (k := (k : Int)) (now := s.1) hu hok hlo u.2.2.length 0 (tot, [], false) (Nat.zero_add _) ht (by simp only; omega)
    rw [List.drop_zero, scanP_ok hok.asc hsm rfl] at hin
    have hin' : lim (SP2 gQ) (ch, u, most, lo, tot, s.1, (k : Int), [], false, 0, ()) = some (.inl (ch, u, most, lo, tot + (OF s.2).1.2.2.1, s.1, (k : Int), (OF s.2).1.2.2.2.2, true, ())) := hin
    have hno : ¬ tot + (OF s.2).1.2.2.1 > most := by
      have : (OF s.2).1.2.2.1 ≤ Nv.mostF (sesOf u.2.2) s.1 := m2
      omega
    have hnext := hf.base.next
    have step : SP0 gQ (ch, u, most, lo, tot, s.1, (k : Int), ()) = pa3 (ch, u, most, lo, tot + (OF s.2).1.2.2.1, s.1, (k : Int), (OF s.2).1.2.2.2.2, true, ()) := by
      rw [SP0_eq, decide_eq_true (show (k : Int) ≤ 31 by omega), cond_true, hin']
    have hw : w64 ((k : Int) + 1) = ((k + 1 : Nat) : Int) := by rw [w64_small (by omega) (by omega)]; rfl
    have go : ∀ v, v ∈ (OF s.2).1.2.2.2.2 → lim (SP0 gQ) (ch, u, most, lo, tot + (OF s.2).1.2.2.1, v, ((k + 1 : Nat) : Int), ()) = some (.inr (true, ())) := fun v hv => by
      obtain ⟨q1, q2⟩ := g4 v hv
      obtain ⟨s', hs', rfl⟩ := List.mem_map.1 q2
      have := m1 _ hv
      refine sp0_loop hu hok hlo hmost n (k + 1) _ _ (by omega) (by omega) ⟨s', hs', rfl⟩ (by omega) ?_
      have e : (OF s.2).1.2.2.1 + Nv.mostF (sesOf u.2.2) s'.1 ≤ Nv.mostF (sesOf u.2.2) s.1 := this
      omega
    generalize hq : (OF s.2).1.2.2.2.2 = q at *
    unfold pa3 at step
    simp only [Bool.not_true, cond_false] at step
    rw [decide_eq_false hno, cond_false] at step
    by_cases h0 : q.length = 0
    · rw [show ((q.length : Int) == 0) = true by simp [h0], cond_true] at step
      exact lim_end step
    · have i0 : inRange 0 q.length = true := inR (i := 0) (by omega)
      rw [beq_eq_false_iff_ne.2 (show (q.length : Int) ≠ 0 by omega), cond_false, i0, cond_true, hw] at step
      have first : lim (SP0 gQ) (ch, u, most, lo, tot + (OF s.2).1.2.2.1, q.getD (0 : Int).toNat 0, ((k + 1 : Nat) : Int), ()) = some (.inr (true, ())) := go _ (getD_mem (show 0 < q.length by omega))
      by_cases hc : k < ch.length
      · rw [decide_eq_true (show (k : Int) < (ch.length : Int) by omega), cond_true, inR hc, cond_true, Int.toNat_natCast] at step
        cases hb : ch.getD k false with
        | true =>
          have e1 : w64 ((q.length : Int) - 1) = ((q.length - 1 : Nat) : Int) := by rw [w64_small (by omega) (by omega)]; omega
          rw [hb, cond_true, e1, inR (show q.length - 1 < q.length by omega), cond_true, Int.toNat_natCast] at step
          rw [lim_next step]
          exact go _ (getD_mem (show q.length - 1 < q.length by omega))
        | false =>
          rw [hb, cond_false] at step
          rw [lim_next step]; exact first
      · rw [decide_eq_false (show ¬ (k : Int) < (ch.length : Int) by omega), cond_false] at step
        rw [lim_next step]; exact first
theorem path_true {p : PgD} (hp : OkP p) (ch : List Bool) : evalT Try.prog tt (callQ gQ) [pa0, pa2] [] 3 sPa rB1 (p, ch, ()) = some (true, ()) := by
  rw [e3_eq]
  by_cases hl : p.2.1.length ≤ 40
  · have hno : ¬ (p.2.1.length : Int) > 40 := by omega
    rw [decide_eq_false hno, cond_false]
    have hu := unP_ok hp hl
    have hd : gQ.dUn p = true := dUnP_ok hp hl
    refine (askQ_ok hd).trans ?_
    have e7 : gQ.w7 (gQ.un p) = _ := F7_ok hu
    rw [e7]
    unfold okIII
    rw [tk2_ok]
    have hun : gQ.un p = unP p := rfl
    rw [hun]
    generalize unP p = u at hu ⊢
    have hul := hu.len
    simp only
    unfold workA Nv.workP
    by_cases h1 : u.2.2.length = 0
    · rw [if_pos h1]; rfl
    · rw [if_neg h1]
      by_cases h0 : (Nv.eachE OF (fun _ => 0) (u.2.2.map (·.1)) 0 u.2.2).2 = 0
      · rw [if_neg (fun h => h h0), show ((0 : Int) != 0) = false from rfl, cond_false, beq_eq_false_iff_ne.2 (show (u.2.2.length : Int) ≠ 0 by omega), cond_false]
        have i0 : inRange 0 u.2.2.length = true := inR (i := 0) (by omega)
        rw [i0, cond_true]
        have hok := Nv.eachE_ok h0
        have e3 : (segAt u.2.2 0).1 = (u.2.2.headD (0, [])).1 := by unfold segAt; cases u.2.2 <;> rfl
        have hm0 : segN u.2.2 0 ∈ u.2.2 := seg_mem (by omega)
        have hb := most_bd (l := u.2.2) hul 0 (u.2.2.headD (0, [])).1
        rw [List.drop_zero] at hb
        obtain ⟨g1, _, _, _⟩ := hok.gt _ hm0
        have e4 : segAt u.2.2 0 = segN u.2.2 0 := rfl
        rw [e4] at e3 ⊢
        have h := sp0_loop (ch := ch) hu hok (lo := Nv.longF (sesOf u.2.2)) (fun s hs => Nv.longF_mem (s := (s.1, (OF s.2).1)) (List.mem_map.2 ⟨s, hs, rfl⟩)) (most := Nv.mostF (sesOf u.2.2) (u.2.2.headD (0, [])).1) hb.2
          32 0 0 (segN u.2.2 0).1 (Nat.zero_add _) (by omega) ⟨_, hm0, rfl⟩ (Int.le_refl _) (by rw [e3]; omega)
        have h' : lim (SP0 gQ) (ch, u, Nv.mostF (sesOf u.2.2) (u.2.2.headD (0, [])).1, Nv.longF (sesOf u.2.2), 0, (segN u.2.2 0).1, 0, ()) = _ := h
        rw [h']; rfl
      · rw [if_pos h0, ne0' h0, cond_true]; rfl
  · rw [decide_eq_true (show (p.2.1.length : Int) > 40 by omega), cond_true]; rfl
end Go.Pv.Sg
