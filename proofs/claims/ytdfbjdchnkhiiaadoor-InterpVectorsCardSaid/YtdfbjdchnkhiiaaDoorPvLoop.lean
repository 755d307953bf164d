/-
  Loops over typed states.
-/
import Derived.Test.YtdfbjdchnkhiiaaDoorPvShape
namespace Go.Pv

/-! ### Where the rounds of a function lead -/
section
variable {X Y : Type}

def iter (S : X → Option (X ⊕ Y)) : Nat → X → Option Y
  | 0, _ => none
  | n + 1, x => match S x with
    | none => none
    | some (.inl x') => iter S n x'
    | some (.inr y) => some y

open Classical in
noncomputable def lim (S : X → Option (X ⊕ Y)) (x : X) : Option Y :=
  if h : ∃ y, ∃ n, iter S n x = some y then some (Classical.choose h) else none

variable {S : X → Option (X ⊕ Y)}

theorem iter_mono : ∀ {n m : Nat} {x : X} {y : Y}, iter S n x = some y → n ≤ m → iter S m x = some y
  | 0, _, _, _, h, _ => by cases h
  | n + 1, 0, _, _, _, h => by omega
  | n + 1, m + 1, x, y, h, hle => by
    simp only [iter] at h ⊢
    split at h
    · cases h
    · exact iter_mono h (by omega)
    · exact h

theorem iter_det {n m : Nat} {x : X} {y y' : Y} (h : iter S n x = some y) (h' : iter S m x = some y') : y = y' := by
  have h1 := iter_mono h (Nat.le_max_left n m)
  have h2 := iter_mono h' (Nat.le_max_right n m)
  rw [h1] at h2; cases h2; rfl

theorem lim_some {x : X} {y : Y} : lim S x = some y ↔ ∃ n, iter S n x = some y := by
  unfold lim
  constructor
  · intro h
    split at h
    · rename_i hh
      cases h
      exact Classical.choose_spec hh
    · cases h
  · rintro ⟨n, h⟩
    rw [dif_pos ⟨y, n, h⟩]
    obtain ⟨m, hm⟩ := Classical.choose_spec (⟨y, n, h⟩ : ∃ y, ∃ n, iter S n x = some y)
    rw [iter_det hm h]

theorem lim_next {x x' : X} (h : S x = some (.inl x')) : lim S x = lim S x' := by
  cases h' : lim S x' with
  | some y =>
    obtain ⟨n, hn⟩ := lim_some.1 h'
    exact lim_some.2 ⟨n + 1, by simp only [iter, h]; exact hn⟩
  | none =>
    cases h2 : lim S x with
    | none => rfl
    | some y =>
      obtain ⟨n, hn⟩ := lim_some.1 h2
      cases n with
      | zero => cases hn
      | succ n =>
        simp only [iter, h] at hn
        rw [lim_some.2 ⟨n, hn⟩] at h'; cases h'

theorem lim_end {x : X} {y : Y} (h : S x = some (.inr y)) : lim S x = some y := lim_some.2 ⟨1, by simp only [iter, h]⟩

end

/-! ### Loops -/
structure LoopSpec where
  id : Nat
  inv : Shape
  out : Shape
  ret : Shape

abbrev HookE (R : Type) := Code → Option ((Nat → V) → Mem → Nat → Kont R → Option R)

def stepE (T : TypeId → TT) (callE : (R : Type) → CallE R) (nt : Nat) (hook : (R : Type) → HookE R) (fuel : Nat) (ls : LoopSpec) (body : Code) (x : ls.inv.den) : Option (ls.inv.den ⊕ (ls.out.den ⊕ ls.ret.den)) :=
  codeE T (callE _) nt (hook _) fuel body (Shape.putT ls.inv 0 x) (Shape.putM ls.inv 0 x) ls.inv.length fun ex ρ M _ =>
    match ex with
    | .normal => match Shape.grab ρ M ls.inv [] with
      | some x => some (.inl x)
      | none => none
    | .exit id => bif Nat.beq id ls.id then (match Shape.grab ρ M ls.out [] with
      | some y => some (.inr (.inl y))
      | none => none) else none
    | .ret => match Shape.grab ρ M ls.ret [] with
      | some y => some (.inr (.inr y))
      | none => none

noncomputable def loopH {R : Type} (T : TypeId → TT) (callE : (R : Type) → CallE R) (nt : Nat) (hook : (R : Type) → HookE R) (fuel : Nat) (ls : LoopSpec) (body : Code) : (Nat → V) → Mem → Nat → Kont R → Option R := fun ρ M _ K =>
  match Shape.grab ρ M ls.inv [] with
  | none => none
  | some x => match lim (stepE T callE nt hook fuel ls body) x with
    | none => none
    | some (.inl y) => K .normal (Shape.putT ls.out 0 y) (Shape.putM ls.out 0 y) ls.out.length
    | some (.inr y) => K .ret (Shape.putT ls.ret 0 y) (Shape.putM ls.ret 0 y) ls.ret.length

def findSpec (id : Nat) : List LoopSpec → Option LoopSpec
  | [] => none
  | ls :: r => bif Nat.beq ls.id id then some ls else findSpec id r

noncomputable def loopHook (T : TypeId → TT) (callE : (R : Type) → CallE R) (nt : Nat) (fuel : Nat) (lss : List LoopSpec) : Nat → (R : Type) → HookE R
  | 0 => fun _ _ => none
  | n + 1 => fun _ code => match code with
    | .block id (.loop body) => match findSpec id lss with
      | some ls => some (loopH T callE nt (loopHook T callE nt fuel lss n) fuel ls body)
      | none => none
    | _ => none

/-- the body of the loop in block id -/
def loopBody (id : Nat) : Code → Option Code
  | .seq a b => match loopBody id a with
    | some c => some c
    | none => loopBody id b
  | .cond _ a b => match loopBody id a with
    | some c => some c
    | none => loopBody id b
  | .block i c => match c with
    | .loop body => bif Nat.beq i id then some body else loopBody id body
    | c => loopBody id c
  | .loop c => loopBody id c
  | _ => none

section
variable {P : Program} {T : TypeId → TT} {R : Type} {nt : Nat}

/-- what may be kept of a frame that forgets -/
def Say.Loose (J : Say) : Prop := J.Kept ∧ ∀ {β M Z w β' M'}, J β M Z w → (∀ cb, owned β' M' cb → owned β M cb) → J β' M' Z w

theorem stepE_ok (hT : TOK P T) (hm : P.follows .mixedOrders = true) {callE : (R : Type) → CallE R} (hcall : ∀ R, CallsOK P (callE R)) {hook : (R : Type) → HookE R} (hh : ∀ R, HookOK P nt Say.Loose (hook R))
    {fuel : Nat} {ls : LoopSpec} {body : Code} {Q : Exit → Act → World → Prop} {J : Say} (hJ : J.Loose) {y : ls.out.den ⊕ ls.ret.den} :
    ∀ (n : Nat) (x : ls.inv.den), iter (stepE T callE nt hook fuel ls body) n x = some y → ∀ (β : Nat → Option Loc) (Z : Nat → Prop) (a : Act) (w : World),
      Rel β (Shape.putM ls.inv 0 x) Z nt (Shape.putT ls.inv 0 x) a w → J β (Shape.putM ls.inv 0 x) Z w →
      (∀ β' Z' a' w', (match y with
        | .inl y => Rel β' (Shape.putM ls.out 0 y) Z' nt (Shape.putT ls.out 0 y) a' w' ∧ J β' (Shape.putM ls.out 0 y) Z' w'
        | .inr y => Rel β' (Shape.putM ls.ret 0 y) Z' nt (Shape.putT ls.ret 0 y) a' w' ∧ J β' (Shape.putM ls.ret 0 y) Z' w') → a'.defers = a.defers →
        match y with
        | .inl _ => Q .normal a' w'
        | .inr _ => Q .ret a' w') → Rounds P body (Exit.inBlock ls.id Q) n a w
  | 0, x, h => by cases h
  | n + 1, x, h => by
    intro β Z a w hr hj hQ
    simp only [iter] at h
    cases hs : stepE T callE nt hook fuel ls body x with
    | none => rw [hs] at h; cases h
    | some z =>
      rw [hs] at h
      obtain ⟨ex, ρ', M', nx', hk, hw⟩ := codeE_ok (𝒥 := Say.Loose) hT hm (hcall _) (fun J h => h.1) (hh _) fuel body _ _ _ _ _ hs
      refine hw J hJ β Z a w _ hr hj fun β' Z' a' w' hr' hj' hd => ?_
      cases ex with
      | normal =>
        simp only at hk
        cases hg : Shape.grab ρ' M' ls.inv [] with
        | none => rw [hg] at hk; cases hk
        | some x' =>
          rw [hg] at hk
          cases hk
          obtain ⟨β2, h1, h2⟩ := Shape.ok hr' hg 0
          exact stepE_ok hT hm hcall hh hJ n x' h β2 Z' a' w' h1 (hJ.2 hj' h2) fun β3 Z3 a3 w3 q1 q2 => hQ β3 Z3 a3 w3 q1 (q2.trans hd)
      | exit id =>
        simp only at hk
        cases hb : Nat.beq id ls.id with
        | false => rw [hb] at hk; cases hk
        | true =>
          rw [hb] at hk
          simp only [cond_true] at hk
          have := Nat.eq_of_beq_eq_true hb
          subst this
          cases hg : Shape.grab ρ' M' ls.out [] with
          | none => rw [hg] at hk; cases hk
          | some y' =>
            rw [hg] at hk
            cases hk
            simp only [Option.some.injEq] at h
            subst h
            obtain ⟨β2, h1, h2⟩ := Shape.ok hr' hg 0
            have := hQ β2 Z' a' w' ⟨h1, hJ.2 hj' h2⟩ hd
            simpa [Ex.out, Exit.then, Exit.inBlock] using this
      | ret =>
        simp only at hk
        cases hg : Shape.grab ρ' M' ls.ret [] with
        | none => rw [hg] at hk; cases hk
        | some y' =>
          rw [hg] at hk
          cases hk
          simp only [Option.some.injEq] at h
          subst h
          obtain ⟨β2, h1, h2⟩ := Shape.ok hr' hg 0
          have := hQ β2 Z' a' w' ⟨h1, hJ.2 hj' h2⟩ hd
          simpa [Ex.out, Exit.then, Exit.inBlock] using this

theorem loopH_ok (hT : TOK P T) (hm : P.follows .mixedOrders = true) {callE : (R : Type) → CallE R} (hcall : ∀ R, CallsOK P (callE R)) {hook : (R : Type) → HookE R} (hh : ∀ R, HookOK P nt Say.Loose (hook R))
    {fuel : Nat} {ls : LoopSpec} {body : Code} : CodeOK (R := R) P nt Say.Loose (.block ls.id (.loop body)) (loopH T callE nt hook fuel ls body) := by
  intro ρ M nx K r h
  unfold loopH at h
  cases hg : Shape.grab ρ M ls.inv [] with
  | none => rw [hg] at h; cases h
  | some x =>
    rw [hg] at h
    simp only at h
    cases hl : lim (stepE T callE nt hook fuel ls body) x with
    | none => rw [hl] at h; cases h
    | some y =>
      rw [hl] at h
      obtain ⟨n, hn⟩ := lim_some.1 hl
      cases y with
      | inl y =>
        refine ⟨_, _, _, _, h, fun J hJ β Z a w Q hr hj hQ => ?_⟩
        obtain ⟨β2, h1, h2⟩ := Shape.ok hr hg 0
        exact wp_block (wp_rounds (stepE_ok hT hm hcall hh hJ n x hn β2 Z a w h1 (hJ.2 hj h2) fun β' Z' a' w' q1 q2 => hQ β' Z' a' w' q1.1 q1.2 q2))
      | inr y =>
        refine ⟨_, _, _, _, h, fun J hJ β Z a w Q hr hj hQ => ?_⟩
        obtain ⟨β2, h1, h2⟩ := Shape.ok hr hg 0
        exact wp_block (wp_rounds (stepE_ok hT hm hcall hh hJ n x hn β2 Z a w h1 (hJ.2 hj h2) fun β' Z' a' w' q1 q2 => hQ β' Z' a' w' q1.1 q1.2 q2))

theorem findSpec_id : ∀ {lss : List LoopSpec} {id : Nat} {ls : LoopSpec}, findSpec id lss = some ls → ls.id = id
  | [], _, _, h => by cases h
  | l :: r, id, ls, h => by
    simp only [findSpec] at h
    cases hb : Nat.beq l.id id with
    | true => rw [hb] at h; cases h; exact Nat.eq_of_beq_eq_true hb
    | false => rw [hb] at h; exact findSpec_id h

theorem loopHook_ok (hT : TOK P T) (hm : P.follows .mixedOrders = true) {callE : (R : Type) → CallE R} (hcall : ∀ R, CallsOK P (callE R)) {fuel : Nat} {lss : List LoopSpec} :
    ∀ (n : Nat) (R : Type), HookOK P nt Say.Loose (loopHook T callE nt fuel lss n R)
  | 0, R => fun code h hh => by cases hh
  | n + 1, R => fun code h hh => by
    unfold loopHook at hh
    split at hh
    · rename_i id body
      cases hf : findSpec id lss with
      | none => rw [hf] at hh; cases hh
      | some ls =>
        rw [hf] at hh
        cases hh
        have := findSpec_id hf
        subst this
        exact loopH_ok hT hm hcall (loopHook_ok hT hm hcall n)
    · cases hh

end
end Go.Pv
