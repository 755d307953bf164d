/-
  What it means that an abstract run of an operation is right; operations that leave memory alone.
-/
import Derived.Test.YtdfbjdchnkhiiaaDoorPvCode
namespace Go.Pv

/-- The operation, from values and memory that the abstract ones stand for, does what the effect says. -/
def OpOK (P : Program) (o : Oper) (ev : Operand → V) (M : Mem) (eff : Eff) : Prop :=
  (∀ b, b ∈ eff.upd.map (·.1) → b ∈ eff.fp) ∧
  ∀ (M2 : Mem), (∀ b ∈ eff.fp, M2 b = M b) → ∀ (β : Nat → Option Loc) (Z : Nat → Prop) (a : Act) (w : World), RMem β M2 Z w.heap →
    (∀ x ∈ o.op.operands.toList, RV β M2 Z w.heap (ev x) (a.eval x)) →
    ∀ (next : Act → World → Prop) (Q : Exit → Act → World → Prop),
      (∀ v' w' β' Z', RV β' (M2.upds eff.upd) Z' w'.heap eff.val v' → RMem β' (M2.upds eff.upd) Z' w'.heap →
        EvW β M2 Z w β' (M2.upds eff.upd) Z' w' → next (a.put o.dst v') w') → o.wp P a w next Q

section
variable {P : Program} {o : Oper} {ev : Operand → V} {M : Mem} {R : Type}

theorem OpOK.of_run {eff : Eff} (hu : ∀ b, b ∈ eff.upd.map (·.1) → b ∈ eff.fp)
    (h : ∀ (M2 : Mem), (∀ b ∈ eff.fp, M2 b = M b) → ∀ (β : Nat → Option Loc) (Z : Nat → Prop) (a : Act) (w : World), RMem β M2 Z w.heap →
      (∀ x ∈ o.op.operands.toList, RV β M2 Z w.heap (ev x) (a.eval x)) →
      ∃ v' w' β' Z', ((execOp a.eval o).run P w = .ok (.value v') w' ∨ ((execOp a.eval o).run P w = .ok .skip w' ∧ v' = undef)) ∧
        RV β' (M2.upds eff.upd) Z' w'.heap eff.val v' ∧ RMem β' (M2.upds eff.upd) Z' w'.heap ∧ EvW β M2 Z w β' (M2.upds eff.upd) Z' w') :
    OpOK P o ev M eff := by
  refine ⟨hu, fun M2 hM β Z a w hm hx next Q hn => ?_⟩
  obtain ⟨v', w', β', Z', hr, h1, h2, h3⟩ := h M2 hM β Z a w hm hx
  unfold Oper.wp
  rcases hr with hr | ⟨hr, rfl⟩
  · rw [hr, Oper.upon_value]; exact hn _ _ _ _ h1 h2 h3
  · rw [hr, Oper.upon_skip]; exact hn _ _ _ _ h1 h2 h3

/-- an operation that only computes -/
theorem OpOK.pure {eff : Eff} (hu : eff.upd = [])
    (h : ∀ (M2 : Mem), (∀ b ∈ eff.fp, M2 b = M b) → ∀ (β : Nat → Option Loc) (Z : Nat → Prop) (a : Act) (w : World), RMem β M2 Z w.heap →
      (∀ x ∈ o.op.operands.toList, RV β M2 Z w.heap (ev x) (a.eval x)) →
      ∃ v', (execOp a.eval o).run P w = .ok (.value v') w ∧ RV β M2 Z w.heap eff.val v') : OpOK P o ev M eff := by
  refine OpOK.of_run (by rw [hu]; simp) fun M2 hM β Z a w hm hx => ?_
  obtain ⟨v', h1, h2⟩ := h M2 hM β Z a w hm hx
  refine ⟨v', w, β, Z, .inl h1, ?_, ?_, ?_⟩ <;> rw [hu]
  · exact h2
  · exact hm
  · exact EvW.refl _ _ _ _

/-! ### Readings of values -/
variable {β : Nat → Option Loc} {M2 : Mem} {Z : Nat → Prop} {h : Heap}

theorem RV.int_inv {k : IntKind} {n : Int} {v : Value} (r : RV β M2 Z h (.int k n) v) : v = .int k n := by cases r; rfl
theorem RV.bool_inv {b : Bool} {v : Value} (r : RV β M2 Z h (.bool b) v) : v = .bool b := by cases r; rfl
theorem RV.str_inv {s : ByteArray} {v : Value} (r : RV β M2 Z h (.str s) v) : v = .string s := by cases r; rfl
theorem RV.nils_inv {v : Value} (r : RV β M2 Z h .nils v) : v = .slice none 0 0 := by cases r; rfl
theorem RV.agg_inv {cs : List V} {v : Value} (r : RV β M2 Z h (.agg cs) v) : ∃ vs : Array Value, v = .agg vs ∧ cs.length = vs.size ∧ ∀ i (hi : i < cs.length), RV β M2 Z h cs[i] (vs.getD i undef) := by
  cases r with | agg _ vs hl hc => exact ⟨vs, rfl, hl, hc⟩
theorem RV.tup_inv {cs : List V} {v : Value} (r : RV β M2 Z h (.tup cs) v) : ∃ vs : Array Value, v = .tuple vs ∧ cs.length = vs.size ∧ ∀ i (hi : i < cs.length), RV β M2 Z h cs[i] (vs.getD i undef) := by
  cases r with | tup _ vs hl hc => exact ⟨vs, rfl, hl, hc⟩
theorem RV.fn_inv {f : FuncId} {cs : List V} {v : Value} (r : RV β M2 Z h (.fn f cs) v) : ∃ vs : Array Value, v = .func (.func f) #[] vs ∧ cs.length = vs.size ∧ ∀ i (hi : i < cs.length), RV β M2 Z h cs[i] (vs.getD i undef) := by
  cases r with | fn _ _ vs hl hc => exact ⟨vs, rfl, hl, hc⟩

/-- Lists of abstract values and of values. -/
def RL (β : Nat → Option Loc) (M : Mem) (Z : Nat → Prop) (h : Heap) (cs : List V) (vs : List Value) : Prop :=
  cs.length = vs.length ∧ ∀ (i : Nat) (x : V) (v : Value), cs[i]? = some x → vs[i]? = some v → RV β M Z h x v

theorem RL.nil : RL β M2 Z h [] [] := ⟨rfl, fun i x v hx _ => by simp at hx⟩

theorem RL.cons {x : V} {v : Value} {cs : List V} {vs : List Value} (hx : RV β M2 Z h x v) (hr : RL β M2 Z h cs vs) : RL β M2 Z h (x :: cs) (v :: vs) := by
  refine ⟨by simp [hr.1], fun i y u hy hu => ?_⟩
  cases i with
  | zero => simp at hy hu; subst hy; subst hu; exact hx
  | succ i => simp at hy hu; exact hr.2 i y u hy hu

theorem RL.cons_inv {x : V} {cs : List V} {vs : List Value} (hr : RL β M2 Z h (x :: cs) vs) : ∃ v vs', vs = v :: vs' ∧ RV β M2 Z h x v ∧ RL β M2 Z h cs vs' := by
  obtain ⟨hl, hc⟩ := hr
  cases vs with
  | nil => simp at hl
  | cons v vs' => exact ⟨v, vs', rfl, hc 0 x v (by simp) (by simp), by simpa using hl, fun i y u hy hu => hc (i + 1) y u (by simpa using hy) (by simpa using hu)⟩

theorem RL.of_arr {cs : List V} {vs : Array Value} (hl : cs.length = vs.size) (hc : ∀ i (hi : i < cs.length), RV β M2 Z h cs[i] (vs.getD i undef)) : RL β M2 Z h cs vs.toList := by
  refine ⟨by simpa using hl, fun i x v hx hv => ?_⟩
  obtain ⟨hi, rfl⟩ := List.getElem?_eq_some_iff.1 hx
  have := hc i hi
  have hv' : vs.getD i undef = v := by
    simp only [Array.getElem?_toList] at hv
    simp [Array.getD_eq_getD_getElem?, hv]
  rwa [hv'] at this

theorem RL.to_arr {cs : List V} {vs : Array Value} (hr : RL β M2 Z h cs vs.toList) : cs.length = vs.size ∧ ∀ i (hi : i < cs.length), RV β M2 Z h cs[i] (vs.getD i undef) := by
  refine ⟨by simpa using hr.1, fun i hi => hr.2 i _ _ (List.getElem?_eq_getElem hi) ?_⟩
  have hi' : i < vs.size := by have := hr.1; simp at this; omega
  simp [Array.getD_eq_getD_getElem?, hi']

theorem RL.append {c1 c2 : List V} {v1 v2 : List Value} (h1 : RL β M2 Z h c1 v1) (h2 : RL β M2 Z h c2 v2) : RL β M2 Z h (c1 ++ c2) (v1 ++ v2) := by
  refine ⟨by simp [h1.1, h2.1], fun i x v hx hv => ?_⟩
  have e := h1.1
  by_cases hi : i < c1.length
  · rw [List.getElem?_append_left hi] at hx
    rw [List.getElem?_append_left (by omega)] at hv
    exact h1.2 i x v hx hv
  · rw [List.getElem?_append_right (by omega)] at hx
    rw [List.getElem?_append_right (by omega)] at hv
    rw [e] at hx
    exact h2.2 _ x v hx hv

theorem RL.drop {cs : List V} {vs : List Value} (hr : RL β M2 Z h cs vs) (n : Nat) : RL β M2 Z h (cs.drop n) (vs.drop n) :=
  ⟨by simp [hr.1], fun i x v hx hv => hr.2 (n + i) x v (by simpa using hx) (by simpa using hv)⟩

theorem RL.take {cs : List V} {vs : List Value} (hr : RL β M2 Z h cs vs) (n : Nat) : RL β M2 Z h (cs.take n) (vs.take n) := by
  refine ⟨by simp [hr.1], fun i x v hx hv => ?_⟩
  rw [List.getElem?_take] at hx hv
  split at hx
  · rw [if_pos ‹_›] at hv; exact hr.2 i x v hx hv
  · cases hx

theorem RL.set {cs : List V} {vs : List Value} (hr : RL β M2 Z h cs vs) (n : Nat) {x : V} {v : Value} (hx : RV β M2 Z h x v) : RL β M2 Z h (cs.set n x) (vs.set n v) := by
  refine ⟨by simp [hr.1], fun i y u hy hu => ?_⟩
  rw [List.getElem?_set] at hy hu
  split at hy
  · rename_i e
    rw [if_pos e] at hu
    split at hy
    · split at hu
      · cases hy; cases hu; exact hx
      · cases hu
    · cases hy
  · rename_i e
    rw [if_neg e] at hu
    exact hr.2 i y u hy hu

theorem RL.mono {β' : Nat → Option Loc} {M' : Mem} {Z' : Nat → Prop} {h' : Heap} (g : Grow β M2 Z h β' M' Z' h') {cs : List V} {vs : List Value} (hr : RL β M2 Z h cs vs) : RL β' M' Z' h' cs vs :=
  ⟨hr.1, fun i x v hx hv => (hr.2 i x v hx hv).mono g⟩

/-- the cells of data -/
theorem RL.of_RD : ∀ {τ : Ty} {x : τ.den} {cs : List Value}, RD h Z τ x cs → RL β M2 Z h (enc τ x) cs
  | .unit, _, cs, hh => by simp only [RD] at hh; subst hh; exact RL.nil
  | .bool, b, cs, hh => by simp only [RD] at hh; subst hh; exact RL.cons (.bool b) RL.nil
  | .str, s, cs, hh => by simp only [RD] at hh; subst hh; exact RL.cons (.str s) RL.nil
  | .int k, n, cs, hh => by simp only [RD] at hh; subst hh; exact RL.cons (.int k n) RL.nil
  | .pair a b, x, cs, hh => by
    have h1 : RL β M2 Z h _ _ := RL.of_RD hh.1
    have h2 : RL β M2 Z h _ _ := RL.of_RD hh.2
    have := h1.append h2
    rwa [List.take_append_drop] at this
  | .slice e, l, cs, hh => by
    have hl := RD.length hh
    obtain ⟨v, rfl⟩ : ∃ v, cs = [v] := by
      cases cs with
      | nil => simp [Ty.size] at hl
      | cons v r => cases r with
        | nil => exact ⟨v, rfl⟩
        | cons _ _ => simp [Ty.size] at hl
    exact RL.cons (.fz e l v hh) RL.nil

theorem enc_length : ∀ (τ : Ty) (x : τ.den), (enc τ x).length = τ.size
  | .unit, _ => rfl
  | .bool, _ => rfl
  | .str, _ => rfl
  | .int _, _ => rfl
  | .pair a b, x => by simp [enc, Ty.size, enc_length a x.1, enc_length b x.2]
  | .slice _, _ => rfl

/-- what is decoded stands for the cells -/
theorem dec_ok : ∀ {τ : Ty} {cs : List V} {vs : List Value} {x : τ.den} {r : List V}, dec τ cs = some (x, r) → RL β M2 Z h cs vs →
    RD h Z τ x (vs.take τ.size) ∧ RL β M2 Z h r (vs.drop τ.size)
  | .unit, cs, vs, x, r, hd, hr => by
    simp only [dec, Option.some.injEq, Prod.mk.injEq] at hd
    obtain ⟨_, rfl⟩ := hd
    exact ⟨by simp [RD, Ty.size], by simpa [Ty.size] using hr⟩
  | .bool, cs, vs, x, r, hd, hr => by
    cases cs with
    | nil => simp [dec] at hd
    | cons c cs =>
      cases c <;> simp only [dec, reduceCtorEq] at hd
      rename_i b
      simp only [Option.some.injEq, Prod.mk.injEq] at hd
      obtain ⟨rfl, rfl⟩ := hd
      obtain ⟨v, vs', rfl, h1, h2⟩ := hr.cons_inv
      exact ⟨by simp [RD, Ty.size, h1.bool_inv], by simpa [Ty.size] using h2⟩
  | .str, cs, vs, x, r, hd, hr => by
    cases cs with
    | nil => simp [dec] at hd
    | cons c cs =>
      cases c <;> simp only [dec, reduceCtorEq] at hd
      rename_i b
      simp only [Option.some.injEq, Prod.mk.injEq] at hd
      obtain ⟨rfl, rfl⟩ := hd
      obtain ⟨v, vs', rfl, h1, h2⟩ := hr.cons_inv
      exact ⟨by simp [RD, Ty.size, h1.str_inv], by simpa [Ty.size] using h2⟩
  | .int k, cs, vs, x, r, hd, hr => by
    cases cs with
    | nil => simp [dec] at hd
    | cons c cs =>
      cases c <;> simp only [dec, reduceCtorEq] at hd
      rename_i k' n
      split at hd
      · rename_i e
        subst e
        simp only [Option.some.injEq, Prod.mk.injEq] at hd
        obtain ⟨rfl, rfl⟩ := hd
        obtain ⟨v, vs', rfl, h1, h2⟩ := hr.cons_inv
        exact ⟨by simp [RD, Ty.size, h1.int_inv], by simpa [Ty.size] using h2⟩
      · cases hd
  | .pair a b, cs, vs, x, r, hd, hr => by
    simp only [dec] at hd
    cases h1 : dec a cs with
    | none => rw [h1] at hd; cases hd
    | some p =>
      obtain ⟨x1, r1⟩ := p
      rw [h1] at hd
      simp only at hd
      cases h2 : dec b r1 with
      | none => rw [h2] at hd; cases hd
      | some p =>
        obtain ⟨x2, r2⟩ := p
        rw [h2] at hd
        simp only [Option.some.injEq, Prod.mk.injEq] at hd
        obtain ⟨rfl, rfl⟩ := hd
        obtain ⟨a1, a2⟩ := dec_ok h1 hr
        obtain ⟨b1, b2⟩ := dec_ok h2 a2
        refine ⟨⟨?_, ?_⟩, ?_⟩
        · rw [List.take_take]; simpa [Ty.size] using a1
        · rw [List.drop_take]; simpa [Ty.size] using b1
        · simpa [Ty.size, List.drop_drop] using b2
  | .slice e, cs, vs, x, r, hd, hr => by
    cases cs with
    | nil => simp [dec] at hd
    | cons c cs =>
      cases c <;> simp only [dec, reduceCtorEq] at hd
      · simp only [Option.some.injEq, Prod.mk.injEq] at hd
        obtain ⟨rfl, rfl⟩ := hd
        obtain ⟨v, vs', rfl, h1, h2⟩ := hr.cons_inv
        exact ⟨by simp only [RD, Ty.size]; left; simp [h1.nils_inv], by simpa [Ty.size] using h2⟩
      · rename_i e' l
        split at hd
        · rename_i he
          subst he
          simp only [Option.some.injEq, Prod.mk.injEq] at hd
          obtain ⟨rfl, rfl⟩ := hd
          obtain ⟨v, vs', rfl, h1, h2⟩ := hr.cons_inv
          cases h1 with
          | fz _ _ _ hd => exact ⟨by simpa [Ty.size] using hd, by simpa [Ty.size] using h2⟩
        · cases hd

end
end Go.Pv
