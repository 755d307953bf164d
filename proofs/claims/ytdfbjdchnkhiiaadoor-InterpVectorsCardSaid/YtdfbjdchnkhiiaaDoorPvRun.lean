/-
  Code: the abstract run is right.
-/
import Derived.Test.YtdfbjdchnkhiiaaDoorPvDraw
namespace Go.Pv

def Ex.out : Ex → Exit
  | .normal => .normal
  | .exit id => .exit id
  | .ret => .ret

/-- what is said of block places, memory, frozen zone and heap -/
abbrev Say := (Nat → Option Loc) → Mem → (Nat → Prop) → World → Prop

def Say.Kept (J : Say) : Prop := ∀ {β M Z w β' M' Z' w'}, J β M Z w → EvW β M Z w β' M' Z' w' → J β' M' Z' w'

section
variable {P : Program} {T : TypeId → TT} {R : Type} {nt : Nat}

/-- the loop ends within n rounds -/
def Rounds (P : Program) (c : Code) (Q : Exit → Act → World → Prop) : Nat → Act → World → Prop
  | 0, _, _ => False
  | n + 1, a, w => c.wp P (Exit.then (Rounds P c Q n) Q) a w

theorem least {p : Nat → Prop} (h : ∃ n, p n) : ∃ n, p n ∧ ∀ m, p m → n ≤ m := by
  obtain ⟨n, hn⟩ := h
  induction n using Nat.strongRecOn with
  | ind n ih =>
    by_cases e : ∃ m, m < n ∧ p m
    · obtain ⟨m, h1, h2⟩ := e; exact ih m h1 h2
    · exact ⟨n, hn, fun m hm => Nat.le_of_not_lt fun hlt => e ⟨m, hlt, hm⟩⟩

theorem wp_rounds {c : Code} {Q : Exit → Act → World → Prop} {n : Nat} {a : Act} {w : World} (h : Rounds P c Q n a w) : (Code.loop c).wp P Q a w := by
  classical
  let μ : Act → World → Nat := fun a w => if h : ∃ n, Rounds P c Q n a w then Classical.choose (least h) else 0
  refine wp_loop (fun a w => ∃ n, Rounds P c Q n a w) μ ⟨n, h⟩ fun a w hI => ?_
  have hm : μ a w = Classical.choose (least hI) := by simp only [μ]; rw [dif_pos hI]
  have hs := (Classical.choose_spec (least hI)).1
  cases hn : Classical.choose (least hI) with
  | zero => rw [hn] at hs; exact hs.elim
  | succ m =>
    rw [hn] at hs
    refine wp_mono hs fun e a' w' hq => ?_
    cases e <;> try exact hq
    have hI' : ∃ n, Rounds P c Q n a' w' := ⟨m, hq⟩
    refine ⟨hI', ?_⟩
    have hm' : μ a' w' = Classical.choose (least hI') := by simp only [μ]; rw [dif_pos hI']
    rw [hm', hm, hn]
    exact Nat.lt_succ_of_le ((Classical.choose_spec (least hI')).2 m hq)

/-- A run of code by h is right. -/
def CodeOK (P : Program) (nt : Nat) (𝒥 : Say → Prop) (code : Code) (h : (Nat → V) → Mem → Nat → Kont R → Option R) : Prop :=
  ∀ (ρ : Nat → V) (M : Mem) (nx : Nat) (K : Kont R) (r : R), h ρ M nx K = some r → ∃ ex ρ' M' nx', K ex ρ' M' nx' = some r ∧
    ∀ (J : Say), 𝒥 J → ∀ (β : Nat → Option Loc) (Z : Nat → Prop) (a : Act) (w : World) (Q : Exit → Act → World → Prop), Rel β M Z nt ρ a w → J β M Z w →
      (∀ β' Z' a' w', Rel β' M' Z' nt ρ' a' w' → J β' M' Z' w' → a'.defers = a.defers → Q ex.out a' w') → code.wp P Q a w

def HookOK (P : Program) (nt : Nat) (𝒥 : Say → Prop) (hook : Code → Option ((Nat → V) → Mem → Nat → Kont R → Option R)) : Prop := ∀ code h, hook code = some h → CodeOK P nt 𝒥 code h

theorem noHook_ok {𝒥 : Say → Prop} : HookOK P nt 𝒥 (fun _ => (none : Option ((Nat → V) → Mem → Nat → Kont R → Option R))) := fun _ _ h => by cases h

theorem codeE_all (hT : TOK P T) (hm : P.follows .mixedOrders = true) {callE : FuncId → List V → Mem → Nat → (Eff → Option R) → Option R} (hcall : CallsOK P callE)
    {𝒥 : Say → Prop} (hJ : ∀ J, 𝒥 J → Say.Kept J) {hook : Code → Option ((Nat → V) → Mem → Nat → Kont R → Option R)} (hh : HookOK P nt 𝒥 hook) :
    ∀ n, (∀ code, CodeOK P nt 𝒥 code (codeE T callE nt hook n code)) ∧
      ∀ body, hook (.loop body) = none → ∀ (ρ : Nat → V) (M : Mem) (nx : Nat) (K : Kont R) (r : R), codeE T callE nt hook n (.loop body) ρ M nx K = some r →
        ∃ ex ρ' M' nx', K ex ρ' M' nx' = some r ∧ ∀ (J : Say), 𝒥 J → ∀ (β : Nat → Option Loc) (Z : Nat → Prop) (a : Act) (w : World) (Q : Exit → Act → World → Prop), Rel β M Z nt ρ a w → J β M Z w →
          (∀ β' Z' a' w', Rel β' M' Z' nt ρ' a' w' → J β' M' Z' w' → a'.defers = a.defers → Q ex.out a' w') → Rounds P body Q n a w := by
  intro n
  induction n with
  | zero =>
    refine ⟨fun code ρ M nx K r h => ?_, fun body _ ρ M nx K r h => ?_⟩ <;> simp [codeE] at h
  | succ n ih =>
    obtain ⟨ihA, ihB⟩ := ih
    have B : ∀ body, hook (.loop body) = none → ∀ (ρ : Nat → V) (M : Mem) (nx : Nat) (K : Kont R) (r : R), codeE T callE nt hook (n + 1) (.loop body) ρ M nx K = some r →
        ∃ ex ρ' M' nx', K ex ρ' M' nx' = some r ∧ ∀ (J : Say), 𝒥 J → ∀ (β : Nat → Option Loc) (Z : Nat → Prop) (a : Act) (w : World) (Q : Exit → Act → World → Prop), Rel β M Z nt ρ a w → J β M Z w →
          (∀ β' Z' a' w', Rel β' M' Z' nt ρ' a' w' → J β' M' Z' w' → a'.defers = a.defers → Q ex.out a' w') → Rounds P body Q (n + 1) a w := by
      intro body hnone ρ M nx K r h
      simp only [codeE, hnone] at h
      obtain ⟨ex, ρ', M', nx', hk, hw⟩ := ihA body ρ M nx _ r h
      cases ex with
      | normal =>
        obtain ⟨ex2, ρ2, M2, nx2, hk2, hw2⟩ := ihB body hnone ρ' M' nx' K r hk
        exact ⟨ex2, ρ2, M2, nx2, hk2, fun J hJJ β Z a w Q hr hj hQ => hw J hJJ β Z a w _ hr hj fun β' Z' a' w' hr' hj' hd =>
          hw2 J hJJ β' Z' a' w' Q hr' hj' fun β2 Z2 a2 w2 q2 q3 q4 => hQ _ _ _ _ q2 q3 (q4.trans hd)⟩
      | exit id => exact ⟨_, _, _, _, hk, fun J hJJ β Z a w Q hr hj hQ => hw J hJJ β Z a w _ hr hj fun β' Z' a' w' hr' hj' hd => hQ _ _ _ _ hr' hj' hd⟩
      | ret => exact ⟨_, _, _, _, hk, fun J hJJ β Z a w Q hr hj hQ => hw J hJJ β Z a w _ hr hj fun β' Z' a' w' hr' hj' hd => hQ _ _ _ _ hr' hj' hd⟩
    refine ⟨fun code ρ M nx K r h => ?_, B⟩
    cases hk : hook code with
    | some hc =>
      simp only [codeE, hk] at h
      exact hh code hc hk ρ M nx K r h
    | none =>
      have h0 := h
      simp only [codeE, hk] at h
      cases code with
      | skip => exact ⟨_, _, _, _, h, fun J hJJ β Z a w Q hr hj hQ => wp_skip (hQ _ _ _ _ hr hj rfl)⟩
      | region id ops draw =>
        simp only at h
        cases draw with
        | true =>
          simp only [cond_true] at h
          obtain ⟨ρ', M', nx', hc, hw⟩ := opsD_ok (rid := id) hT hm hcall h
          exact ⟨_, _, _, _, hc, fun J hJJ β Z a w Q hr hj hQ => hw β Z a w Q hr fun β' Z' a' w' q2 q3 q4 => hQ _ _ _ _ q2 (hJ J hJJ hj q3) q4⟩
        | false =>
          simp only [cond_false] at h
          obtain ⟨ρ', M', nx', hc, hw⟩ := opsE_ok hT hcall _ _ _ _ h
          exact ⟨_, _, _, _, hc, fun J hJJ β Z a w Q hr hj hQ => wp_region_list (hw β Z a w Q hr fun β' Z' a' w' q2 q3 q4 => hQ _ _ _ _ q2 (hJ J hJJ hj q3) q4)⟩
      | seq x y =>
        simp only at h
        obtain ⟨ex, ρ', M', nx', hk, hw⟩ := ihA x ρ M nx _ r h
        cases ex with
        | normal =>
          obtain ⟨ex2, ρ2, M2, nx2, hk2, hw2⟩ := ihA y ρ' M' nx' K r hk
          exact ⟨ex2, ρ2, M2, nx2, hk2, fun J hJJ β Z a w Q hr hj hQ => wp_seq (hw J hJJ β Z a w _ hr hj fun β' Z' a' w' hr' hj' hd =>
            hw2 J hJJ β' Z' a' w' Q hr' hj' fun β2 Z2 a2 w2 q2 q3 q4 => hQ _ _ _ _ q2 q3 (q4.trans hd))⟩
        | exit id => exact ⟨_, _, _, _, hk, fun J hJJ β Z a w Q hr hj hQ => wp_seq (hw J hJJ β Z a w _ hr hj fun β' Z' a' w' hr' hj' hd => hQ _ _ _ _ hr' hj' hd)⟩
        | ret => exact ⟨_, _, _, _, hk, fun J hJJ β Z a w Q hr hj hQ => wp_seq (hw J hJJ β Z a w _ hr hj fun β' Z' a' w' hr' hj' hd => hQ _ _ _ _ hr' hj' hd)⟩
      | cond c x y =>
        simp only at h
        cases c <;> simp only [reduceCtorEq] at h
        rename_i t
        cases ht : ρ t <;> simp only [ht, reduceCtorEq] at h
        rename_i q
        have ev : ∀ (β : Nat → Option Loc) (Z : Nat → Prop) (a : Act) (w : World), Rel β M Z nt ρ a w → a.eval (.tmp t) = .bool q := fun β Z a w hr => by
          have := hr.eval (.tmp t)
          simp only [evO, ht] at this
          exact this.bool_inv
        cases q with
        | true =>
          simp only [cond_true] at h
          obtain ⟨ex, ρ', M', nx', hk, hw⟩ := ihA x _ M nx K r h
          exact ⟨ex, ρ', M', nx', hk, fun J hJJ β Z a w Q hr hj hQ => wp_cond_true (ev β Z a w hr) (hw J hJJ β Z a w Q (hr.know ht) hj hQ)⟩
        | false =>
          simp only [cond_false] at h
          obtain ⟨ex, ρ', M', nx', hk, hw⟩ := ihA y _ M nx K r h
          exact ⟨ex, ρ', M', nx', hk, fun J hJJ β Z a w Q hr hj hQ => wp_cond_false (ev β Z a w hr) (hw J hJJ β Z a w Q (hr.know ht) hj hQ)⟩
      | block id body =>
        simp only at h
        obtain ⟨ex, ρ', M', nx', hk, hw⟩ := ihA body ρ M nx _ r h
        cases ex with
        | normal => exact ⟨_, _, _, _, hk, fun J hJJ β Z a w Q hr hj hQ => wp_block (hw J hJJ β Z a w _ hr hj fun β' Z' a' w' hr' hj' hd => hQ _ _ _ _ hr' hj' hd)⟩
        | exit id' =>
          simp only at hk
          cases hb : Nat.beq id' id with
          | true =>
            rw [hb] at hk
            refine ⟨_, _, _, _, hk, fun J hJJ β Z a w Q hr hj hQ => wp_block (hw J hJJ β Z a w _ hr hj fun β' Z' a' w' hr' hj' hd => ?_)⟩
            simp only [Ex.out, Exit.inBlock]
            rw [if_pos (Nat.eq_of_beq_eq_true hb)]
            exact hQ _ _ _ _ hr' hj' hd
          | false =>
            rw [hb] at hk
            refine ⟨_, _, _, _, hk, fun J hJJ β Z a w Q hr hj hQ => wp_block (hw J hJJ β Z a w _ hr hj fun β' Z' a' w' hr' hj' hd => ?_)⟩
            simp only [Ex.out, Exit.inBlock]
            rw [if_neg (fun e => by subst e; simp at hb)]
            exact hQ _ _ _ _ hr' hj' hd
        | ret => exact ⟨_, _, _, _, hk, fun J hJJ β Z a w Q hr hj hQ => wp_block (hw J hJJ β Z a w _ hr hj fun β' Z' a' w' hr' hj' hd => hQ _ _ _ _ hr' hj' hd)⟩
      | loop body =>
        obtain ⟨ex, ρ', M', nx', hk', hw⟩ := B body hk ρ M nx K r h0
        exact ⟨ex, ρ', M', nx', hk', fun J hJJ β Z a w Q hr hj hQ => wp_rounds (hw J hJJ β Z a w Q hr hj hQ)⟩
      | exit id => exact ⟨_, _, _, _, h, fun J hJJ β Z a w Q hr hj hQ => wp_exit (hQ _ _ _ _ hr hj rfl)⟩
      | ret => exact ⟨_, _, _, _, h, fun J hJJ β Z a w Q hr hj hQ => wp_ret (hQ _ _ _ _ hr hj rfl)⟩
      | _ => simp only [reduceCtorEq] at h

theorem codeE_ok (hT : TOK P T) (hm : P.follows .mixedOrders = true) {callE : FuncId → List V → Mem → Nat → (Eff → Option R) → Option R} (hcall : CallsOK P callE)
    {𝒥 : Say → Prop} (hJ : ∀ J, 𝒥 J → Say.Kept J) {hook : Code → Option ((Nat → V) → Mem → Nat → Kont R → Option R)} (hh : HookOK P nt 𝒥 hook) (n : Nat) (code : Code) : CodeOK P nt 𝒥 code (codeE T callE nt hook n code) :=
  (codeE_all hT hm hcall hJ hh n).1 code

end
end Go.Pv
