/-
  What a caller is told of a function that is known by itself.
-/
import Derived.Test.YtdfbjdchnkhiiaaDoorPvTop
namespace Go.Pv

def Ty.flat : Ty → Bool
  | .slice _ => false
  | .pair a b => a.flat && b.flat
  | _ => true

def VS.flat : VS → Bool
  | .val τ => τ.flat
  | .agg τ => τ.flat
  | .row τ => τ.flat
  | .box τ => τ.flat

/-! ### Arguments: data, or live rows lent -/
def lend (M : Mem) : (τ : Ty) → V → Option (τ.den × List Nat)
  | .slice e, v => match v with
    | .sl b i m g => match M b with
      | .row τ' l g' _ => if h : τ' = e then (bif Nat.beq g g' then some (h ▸ Go.Pv.cut l i m, [b]) else none) else none
      | _ => none
    | _ => none
  | _, _ => none

def argG (M : Mem) : (s : VS) → V → Option (s.den × List Nat)
  | .val τ, v => match decAll τ [v] with
    | some x => some (x, [])
    | none => lend M τ v
  | .agg τ, v => match v with
    | .agg cs => match decAll τ cs with
      | some x => some (x, [])
      | none => none
    | _ => none
  | _, _ => none

def argsG (M : Mem) : (sa : Sig) → List V → Option (sa.den × List Nat)
  | [], [] => some ((), [])
  | s :: r, v :: vs => match argG M s v with
    | some (x, fp) => match argsG M r vs with
      | some (y, fp') => some ((x, y), fp ++ fp')
      | none => none
    | none => none
  | _, _ => none

def VS.ids : VS → Nat → List Nat
  | .row _, k => [k]
  | .box _, k => [k]
  | _, _ => []

def Shape.ids : Shape → Nat → List Nat
  | [], _ => []
  | s :: r, k => s.2.ids k ++ Shape.ids r (k + 1)

def resV : (i : Nat) → (sr : Sig) → Nat → Shape.den (resShape i sr) → List V
  | _, [], _, _ => []
  | i, s :: r, k, y => s.v k y.1 :: resV (i + 1) r (k + 1) y.2

def specE {R : Type} (sa sr : Sig) (F : sa.den → Option (Shape.den (resShape 0 sr))) : List V → Mem → Nat → (Eff → Option R) → Option R := fun args M id c =>
  match argsG M sa args with
  | none => none
  | some (x, fps) => match F x with
    | none => none
    | some y => forceN ((id + 1) * 100000) fun k => forceNs (Shape.ids (resShape 0 sr) k) fun ids =>
      bif ids.all (fun b => (M b).isNone) then c { val := retV (resV 0 sr k y), upd := ids.map fun b => (b, Shape.putM (resShape 0 sr) k y b), fp := ids ++ fps } else none

section
variable {P : Program} {β β' : Nat → Option Loc} {M M' : Mem} {Z Z' : Nat → Prop} {h h' : Heap}

theorem RD.anyZ : ∀ {τ : Ty} {x : τ.den} {cs : List Value}, τ.flat = true → RD h Z τ x cs → RD h Z' τ x cs
  | .unit, _, _, _, hh => hh
  | .bool, _, _, _, hh => hh
  | .str, _, _, _, hh => hh
  | .int _, _, _, _, hh => hh
  | .pair a b, x, cs, hf, hh => by
    simp only [Ty.flat, Bool.and_eq_true] at hf
    exact ⟨RD.anyZ hf.1 hh.1, RD.anyZ hf.2 hh.2⟩
  | .slice _, _, _, hf, _ => by cases hf

def V.plain : V → Bool
  | .dead => true
  | .bool _ => true
  | .int _ _ => true
  | .str _ => true
  | _ => false

theorem enc_plain : ∀ {τ : Ty} {x : τ.den}, τ.flat = true → ∀ c ∈ enc τ x, c.plain = true
  | .unit, _, _, c, hc => by simp [enc] at hc
  | .bool, _, _, c, hc => by simp [enc] at hc; subst hc; rfl
  | .str, _, _, c, hc => by simp [enc] at hc; subst hc; rfl
  | .int _, _, _, c, hc => by simp [enc] at hc; subst hc; rfl
  | .pair a b, x, hf, c, hc => by
    simp only [Ty.flat, Bool.and_eq_true] at hf
    simp only [enc, List.mem_append] at hc
    rcases hc with hc | hc
    · exact enc_plain hf.1 c hc
    · exact enc_plain hf.2 c hc
  | .slice _, _, hf, _, _ => by cases hf

theorem RV.plain {x : V} {v : Value} (r : RV β M Z h x v) (hp : x.plain = true) : RV β' M' Z' h' x v := by
  cases r with
  | dead v => exact .dead v
  | bool b => exact .bool b
  | int k n => exact .int k n
  | str s => exact .str s
  | _ => cases hp

theorem enc_refs : ∀ {τ : Ty} {x : τ.den}, refsL (enc τ x) = []
  | .unit, _ => rfl
  | .bool, _ => rfl
  | .str, _ => rfl
  | .int _, _ => rfl
  | .pair a b, x => by
    have happ : ∀ (l r : List V), refsL (l ++ r) = refsL l ++ refsL r := fun l r => by
      induction l with
      | nil => rfl
      | cons a l ih => simp only [List.cons_append, refsL, ih, List.append_assoc]
    simp only [enc, happ, enc_refs, List.append_nil]
  | .slice _, _ => rfl

/-- a flat slot, seen elsewhere -/
theorem VS.v_flat {s : VS} {k : Nat} {x : s.den} {u : Value} (hf : s.flat = true) (r : RV β M Z h (s.v k x) u) : RV β M Z' h (s.v k x) u := by
  cases s with
  | val τ =>
    simp only [VS.v] at r ⊢
    cases he : enc τ x with
    | nil => exact .dead _
    | cons c t => rw [he] at r; exact r.plain (enc_plain hf c (by rw [he]; simp))
  | agg τ =>
    obtain ⟨vs, rfl, hl, hc⟩ := r.agg_inv
    exact .agg _ _ hl fun i hi => (hc i hi).plain (enc_plain hf _ (List.getElem_mem hi))
  | row τ => cases r with | sl _ _ _ _ _ h1 hn hg => exact .sl _ _ _ _ _ h1 hn hg
  | box τ => cases r with | ptr _ _ _ _ _ h1 hn hg => exact .ptr _ _ _ _ _ h1 hn hg

theorem putM_slot : ∀ (sh : Shape) (k : Nat) (y : sh.den), (∀ s ∈ sh, s.2.flat = true) → ∀ b, (Shape.putM sh k y b = .none ∧ b ∉ Shape.ids sh k) ∨
    (b ∈ Shape.ids sh k ∧ ((∃ τ l, τ.flat = true ∧ Shape.putM sh k y b = .row τ l 0 false) ∨ ∃ τ x, τ.flat = true ∧ Shape.putM sh k y b = .box (enc τ x)))
  | [], _, _, _, b => .inl ⟨rfl, by simp [Shape.ids]⟩
  | s :: r, k, y, hf, b => by
    have hr := putM_slot r (k + 1) y.2 (fun s hs => hf s (by simp [hs])) b
    have hs := hf s (by simp)
    simp only [Shape.putM]
    by_cases e : b = k
    · subst e
      rw [upd_same]
      have hlt : ∀ (sh : Shape) (k b : Nat), b < k → b ∉ Shape.ids sh k := by
        intro sh
        induction sh with
        | nil => intro k b _; simp [Shape.ids]
        | cons s r ih =>
          intro k b hlt
          simp only [Shape.ids, List.mem_append, not_or]
          refine ⟨?_, ih (k + 1) b (by omega)⟩
          cases s.2 <;> simp [VS.ids] <;> omega
      have hno := hlt r (b + 1) b (by omega)
      obtain ⟨t, s⟩ := s
      cases s with
      | val τ => exact .inl ⟨rfl, by simp [Shape.ids, VS.ids, hno]⟩
      | agg τ => exact .inl ⟨rfl, by simp [Shape.ids, VS.ids, hno]⟩
      | row τ => exact .inr ⟨by simp [Shape.ids, VS.ids], .inl ⟨τ, y.1, hs, rfl⟩⟩
      | box τ => exact .inr ⟨by simp [Shape.ids, VS.ids], .inr ⟨τ, y.1, hs, rfl⟩⟩
    · rw [upd_ne _ _ e]
      rcases hr with ⟨h1, h2⟩ | ⟨h1, h2⟩
      · refine .inl ⟨h1, ?_⟩
        simp only [Shape.ids, List.mem_append, not_or]
        exact ⟨by cases s.2 <;> simp [VS.ids, e], h2⟩
      · exact .inr ⟨by simp only [Shape.ids, List.mem_append]; exact .inr h1, h2⟩

theorem RB.flat {b : Nat} (hs : (M b = .none) ∨ (∃ τ l, τ.flat = true ∧ M b = .row τ l 0 false) ∨ ∃ τ x, τ.flat = true ∧ M b = .box (enc τ x)) (r : RB β M Z h b) : RB β M Z' h b := by
  unfold RB at *
  rcases hs with e | ⟨τ, l, hf, e⟩ | ⟨τ, x, hf, e⟩
  · rw [e]; trivial
  · rw [e] at r ⊢
    simp only at r ⊢
    rcases r with r | ⟨cb, base, T, c, fz, e1, e2, e3, e4, e5, e6⟩
    · exact .inl r
    · exact .inr ⟨cb, base, T, c, fz, e1, e2, e3, e4, fun i x hx => (e5 i x hx).anyZ hf, by simp⟩
  · rw [e] at r ⊢
    simp only at r ⊢
    obtain ⟨cb, T, c, e1, e2, e3, e4⟩ := r
    exact ⟨cb, T, c, e1, e2, e3, fun i hi => (e4 i hi).plain (enc_plain hf _ (List.getElem_mem hi))⟩

end
end Go.Pv
