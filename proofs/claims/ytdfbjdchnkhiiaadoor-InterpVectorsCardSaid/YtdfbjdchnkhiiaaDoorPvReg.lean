/-
  Regions in the order of the text.
-/
import Derived.Test.YtdfbjdchnkhiiaaDoorPvOk11
namespace Go.Pv

/-- A frame's state stands for an activation and a world. -/
structure Rel (β : Nat → Option Loc) (M : Mem) (Z : Nat → Prop) (nt : Nat) (ρ : Nat → V) (a : Act) (w : World) : Prop where
  tmps : ∀ t, RV β M Z w.heap (ρ t) (a.tmps.getD t undef)
  size : a.tmps.size = nt
  mem : RMem β M Z w.heap

section
variable {P : Program} {T : TypeId → TT} {R : Type}
variable {β β' : Nat → Option Loc} {M M' : Mem} {Z Z' : Nat → Prop} {nt : Nat} {ρ : Nat → V} {a : Act} {w w' : World}

theorem Rel.eval (r : Rel β M Z nt ρ a w) (x : Operand) : RV β M Z w.heap (evO ρ x) (a.eval x) := by
  cases x with
  | tmp t => exact r.tmps t
  | const v => exact RV.ofValue v
  | global g =>
    simp only [evO]
    split
    · rename_i τ x hg
      obtain ⟨h1, c, T, fz, h2, h3, h4⟩ := r.mem.zlt.gl g τ x hg
      exact .fp τ [x] 0 0 _ g 0 c T fz x rfl h1 h2 rfl h3 h4
    · exact .dead _
  | func f => exact .fn f [] #[] rfl (fun i hi => by simp at hi)

theorem Rel.world (r : Rel β M Z nt ρ a w) (g : Grow β M Z w.heap β' M' Z' w'.heap) (hm : RMem β' M' Z' w'.heap) : Rel β' M' Z' nt ρ a w' :=
  ⟨fun t => (r.tmps t).mono g, r.size, hm⟩

theorem setT_same (ρ : Nat → V) (t : Nat) (v : V) : setT ρ t v t = v := by simp [setT]
theorem setT_ne (ρ : Nat → V) {t x : Nat} (v : V) (h : x ≠ t) : setT ρ t v x = ρ x := by
  have : Nat.beq x t = false := by
    cases e : Nat.beq x t with
    | false => rfl
    | true => exact absurd (Nat.eq_of_beq_eq_true e) h
  simp [setT, this]

theorem Rel.put (r : Rel β M Z nt ρ a w) {d : Nat} (hd : d < nt) {x : V} {v : Value} (hx : RV β M Z w.heap x v) : Rel β M Z nt (setT ρ d x) (a.put (some d) v) w := by
  refine ⟨fun t => ?_, ?_, r.mem⟩
  · simp only [Act.put]
    by_cases e : t = d
    · subst e
      rw [setT_same]
      have : t < a.tmps.size := by rw [r.size]; exact hd
      simpa [Array.getD_eq_getD_getElem?, Array.getElem?_setIfInBounds, this] using hx
    · rw [setT_ne _ _ e]
      have := r.tmps t
      simpa [Array.getD_eq_getD_getElem?, Array.getElem?_setIfInBounds, Ne.symm e] using this
  · simp [Act.put, r.size]

/-- what is known of a temporary may be written down -/
theorem Rel.know (r : Rel β M Z nt ρ a w) {t : Nat} {x : V} (h : ρ t = x) : Rel β M Z nt (setT ρ t x) a w := by
  refine ⟨fun s => ?_, r.size, r.mem⟩
  by_cases e : s = t
  · subst e; rw [setT_same, ← h]; exact r.tmps s
  · rw [setT_ne _ _ e]; exact r.tmps s

theorem Rel.bool (r : Rel β M Z nt ρ a w) {t : Nat} {b : Bool} (h : ρ t = .bool b) : a.tmps[t]? = some (.bool b) := by
  have := r.tmps t
  rw [h] at this
  have e := this.bool_inv
  rw [Array.getD_eq_getD_getElem?] at e
  cases hh : a.tmps[t]? with
  | none => rw [hh] at e; simp [undef] at e
  | some v => rw [hh] at e; simpa using e

theorem guardE_spec {all : List Oper} {g : Option (Nat × Bool)} {yes no : (Nat → V) → Option R} {r : R} (h : guardE all ρ g yes no = some r) :
    ((g = none ∧ yes ρ = some r) ∨ ∃ j want t b, g = some (j, want) ∧ dstOf all j = some t ∧ ρ t = .bool b ∧
      ((b = want ∧ yes (setT ρ t (.bool b)) = some r) ∨ (b ≠ want ∧ no (setT ρ t (.bool b)) = some r))) ∨
    ∃ j want t, g = some (j, want) ∧ dstOf all j = some t ∧ ρ t = .tup [] ∧ no ρ = some r := by
  unfold guardE at h
  cases g with
  | none => exact .inl (.inl ⟨rfl, h⟩)
  | some p =>
    obtain ⟨j, want⟩ := p
    simp only at h
    cases hd : dstOf all j with
    | none => simp [hd] at h
    | some t =>
      simp only [hd] at h
      cases ht : ρ t <;> simp only [ht, reduceCtorEq] at h
      · rename_i b
        refine .inl (.inr ⟨j, want, t, b, rfl, hd, ht, ?_⟩)
        cases b <;> cases want <;> simp only [cond_true, cond_false] at h
        · exact .inl ⟨rfl, h⟩
        · exact .inr ⟨by simp, h⟩
        · exact .inr ⟨by simp, h⟩
        · exact .inl ⟨rfl, h⟩
      · rename_i vs
        cases vs with
        | nil => exact .inr ⟨j, want, t, rfl, hd, ht, h⟩
        | cons _ _ => cases h

theorem undef_RV {h : Heap} : RV β M Z h (.tup []) undef := .tup [] #[] rfl (fun i hi => by simp at hi)

theorem tup_nil {h : Heap} {v : Value} (r : RV β M Z h (.tup []) v) : v = undef := by
  cases r with
  | tup cs vs hl hc =>
    have : vs = #[] := by
      have := hl.symm
      simpa using this
    subst this; rfl

theorem Rel.noBool (r : Rel β M Z nt ρ a w) {t : Nat} (h : ρ t = .tup []) : ∀ b, a.tmps[t]? ≠ some (.bool b) := by
  intro b hb
  have := r.tmps t
  rw [h] at this
  have e := tup_nil this
  rw [Array.getD_eq_getD_getElem?, hb] at e
  simp [undef] at e

theorem dstE_spec {ρ : Nat → V} {d : Option Nat} {v : V} {k : (Nat → V) → Option R} {r : R} (h : dstE nt ρ d v k = some r) :
    (d = none ∧ k ρ = some r) ∨ ∃ t, d = some t ∧ t < nt ∧ k (setT ρ t v) = some r := by
  unfold dstE at h
  cases d with
  | none => exact .inl ⟨rfl, h⟩
  | some t =>
    simp only at h
    cases hb : Nat.blt t nt with
    | false => rw [hb] at h; cases h
    | true => rw [hb] at h; exact .inr ⟨t, rfl, Nat.le_of_ble_eq_true hb, h⟩

theorem put_defers (a : Act) (d : Option Nat) (v : Value) : (a.put d v).defers = a.defers := by cases d <;> rfl

theorem opsE_ok (hT : TOK P T) {callE : FuncId → List V → Mem → Nat → (Eff → Option R) → Option R} (hcall : CallsOK P callE) {all : Array Oper} {c : (Nat → V) → Mem → Nat → Option R} {r : R} :
    ∀ (ops : List Oper) (id : Nat) (ρ : Nat → V) (M : Mem), opsE T callE nt all.toList ops id ρ M c = some r → ∃ ρ' M' nx', c ρ' M' nx' = some r ∧
      ∀ (β : Nat → Option Loc) (Z : Nat → Prop) (a : Act) (w : World) (Q : Exit → Act → World → Prop), Rel β M Z nt ρ a w →
      (∀ β' Z' a' w', Rel β' M' Z' nt ρ' a' w' → EvW β M Z w β' M' Z' w' → a'.defers = a.defers → Q .normal a' w') → wpList P all Q ops a w := by
  intro ops
  induction ops with
  | nil =>
    intro id ρ M h
    exact ⟨ρ, M, id, h, fun β Z a w Q hr hQ => hQ _ _ _ _ hr (EvW.refl _ _ _ _) rfl⟩
  | cons o rest ih =>
    intro id ρ M h
    -- the operation is carried out
    have yes : ∀ ρ, (opE T callE id o.op (evO ρ) M fun e => e.val.force fun v => forceU M e.upd fun M => dstE nt ρ o.dst v fun ρ => forceN (id + 1) fun id => opsE T callE nt all.toList rest id ρ M c) = some r →
        ∃ ρ' M' nx', c ρ' M' nx' = some r ∧ ∀ (β : Nat → Option Loc) (Z : Nat → Prop) (a : Act) (w : World) (Q : Exit → Act → World → Prop), Rel β M Z nt ρ a w →
          (∀ β' Z' a' w', Rel β' M' Z' nt ρ' a' w' → EvW β M Z w β' M' Z' w' → a'.defers = a.defers → Q .normal a' w') → o.wp P a w (wpList P all Q rest) Q := by
      intro ρ h
      obtain ⟨eff, ⟨hfp, hop⟩, hc⟩ := opE_ok hT hcall id _ _ h
      simp only [force_eq, forceU_eq, forceN_eq] at hc
      rcases dstE_spec hc with ⟨hd, hk⟩ | ⟨t, hd, ht, hk⟩
      · obtain ⟨ρ', M', nx', hc', hw⟩ := ih _ _ _ hk
        refine ⟨ρ', M', nx', hc', fun β Z a w Q hr hQ => ?_⟩
        refine hop M (fun _ _ => rfl) β Z a w hr.mem (fun x _ => hr.eval x) _ _ fun v' w' β' Z' h1 h2 h3 => ?_
        rw [hd]
        exact hw β' Z' a w' Q (hr.world h3.toEv.toGrow h2) fun β2 Z2 a' w2 q2 q3 q4 => hQ _ _ _ _ q2 (h3.trans q3) q4
      · obtain ⟨ρ', M', nx', hc', hw⟩ := ih _ _ _ hk
        refine ⟨ρ', M', nx', hc', fun β Z a w Q hr hQ => ?_⟩
        refine hop M (fun _ _ => rfl) β Z a w hr.mem (fun x _ => hr.eval x) _ _ fun v' w' β' Z' h1 h2 h3 => ?_
        rw [hd]
        exact hw β' Z' (a.put (some t) v') w' Q ((hr.world h3.toEv.toGrow h2).put ht h1) fun β2 Z2 a' w2 q2 q3 q4 => hQ _ _ _ _ q2 (h3.trans q3) (by rw [q4, put_defers])
    unfold wpList
    rcases guardE_spec (by simpa only [opsE] using h) with (⟨hg, hy⟩ | ⟨j, want, t, b, hg, hd, ht, hy | hn⟩) | ⟨j, want, t, hg, hd, ht, hn⟩
    · obtain ⟨ρ', M', nx', hc', hw⟩ := yes ρ hy
      refine ⟨ρ', M', nx', hc', fun β Z a w Q hr hQ => ?_⟩
      rw [if_pos (by simp [Region.wanted, hg])]
      exact .inl (hw β Z a w Q hr hQ)
    · obtain ⟨rfl, hy⟩ := hy
      obtain ⟨ρ', M', nx', hc', hw⟩ := yes _ hy
      refine ⟨ρ', M', nx', hc', fun β Z a w Q hr hQ => ?_⟩
      have hd' : ((all[j]?).bind (·.dst)) = some t := by simpa [dstOf] using hd
      have : Region.wanted o (yielded all a.tmps) = true := by simp [Region.wanted, hg, yielded, hd', hr.bool ht]
      rw [if_pos this]
      exact .inl (hw β Z a w Q (hr.know ht) hQ)
    · obtain ⟨hne, hn⟩ := hn
      simp only [forceN_eq] at hn
      have hd' : ((all[j]?).bind (·.dst)) = some t := by simpa [dstOf] using hd
      have hW : ∀ (a : Act), a.tmps[t]? = some (.bool b) → Region.wanted o (yielded all a.tmps) = false := fun a ha => by simp [Region.wanted, hg, yielded, hd', ha, hne]
      rcases dstE_spec hn with ⟨hdd, hk⟩ | ⟨t', hdd, ht', hk⟩
      · obtain ⟨ρ', M', nx', hc', hw⟩ := ih _ _ _ hk
        refine ⟨ρ', M', nx', hc', fun β Z a w Q hr hQ => ?_⟩
        rw [if_neg (by rw [hW a (hr.bool ht)]; simp), hdd]
        exact hw β Z a w Q (hr.know ht) hQ
      · obtain ⟨ρ', M', nx', hc', hw⟩ := ih _ _ _ hk
        refine ⟨ρ', M', nx', hc', fun β Z a w Q hr hQ => ?_⟩
        rw [if_neg (by rw [hW a (hr.bool ht)]; simp), hdd]
        exact hw β Z _ w Q ((hr.know ht).put ht' undef_RV) fun β2 Z2 a' w2 q2 q3 q4 => hQ _ _ _ _ q2 q3 (by rw [q4, put_defers])
    · simp only [forceN_eq] at hn
      have hd' : ((all[j]?).bind (·.dst)) = some t := by simpa [dstOf] using hd
      have hW : ∀ (a : Act), (∀ b, a.tmps[t]? ≠ some (.bool b)) → Region.wanted o (yielded all a.tmps) = false := fun a ha => by
        simp only [Region.wanted, hg, yielded, hd', Option.bind_some]
        cases want <;> rfl
      rcases dstE_spec hn with ⟨hdd, hk⟩ | ⟨t', hdd, ht', hk⟩
      · obtain ⟨ρ', M', nx', hc', hw⟩ := ih _ _ _ hk
        refine ⟨ρ', M', nx', hc', fun β Z a w Q hr hQ => ?_⟩
        rw [if_neg (by rw [hW a (hr.noBool ht)]; simp), hdd]
        exact hw β Z a w Q hr hQ
      · obtain ⟨ρ', M', nx', hc', hw⟩ := ih _ _ _ hk
        refine ⟨ρ', M', nx', hc', fun β Z a w Q hr hQ => ?_⟩
        rw [if_neg (by rw [hW a (hr.noBool ht)]; simp), hdd]
        exact hw β Z _ w Q (hr.put ht' undef_RV) fun β2 Z2 a' w2 q2 q3 q4 => hQ _ _ _ _ q2 q3 (by rw [q4, put_defers])

end
end Go.Pv
