/-
  Shapes: the live part of a frame as typed data; grabbed, and put down again with all else forgotten.
-/
import Derived.Test.YtdfbjdchnkhiiaaDoorPvCall2
namespace Go.Pv

inductive VS where
  /-- a value of one cell -/
  | val (τ : Ty)
  | agg (τ : Ty)
  /-- a slice of a live row of its own: the whole of it -/
  | row (τ : Ty)
  /-- a pointer to a variable of its own -/
  | box (τ : Ty)

@[reducible] def VS.den : VS → Type
  | .val τ => τ.den
  | .agg τ => τ.den
  | .row τ => List τ.den
  | .box τ => τ.den

def decAll (τ : Ty) (cs : List V) : Option τ.den :=
  match dec τ cs with
  | some (x, []) => some x
  | _ => none

def VS.grab (M : Mem) : (s : VS) → V → Option (s.den × Option Nat)
  | .val τ, v => match decAll τ [v] with
    | some x => some (x, none)
    | none => none
  | .agg τ, v => match v with
    | .agg cs => match decAll τ cs with
      | some x => some (x, none)
      | none => none
    | _ => none
  | .row τ, v => match v with
    | .nils => some ([], none)
    | .sl b i m g => match M b with
      | .row τ' l g' false => if h : τ' = τ then (bif Nat.beq g g' && Nat.beq i 0 && m.isNone then some (h ▸ l, some b) else none) else none
      | _ => none
    | _ => none
  | .box τ, v => match v with
    | .ptr b i j _ => match M b with
      | .box cells => bif Nat.beq i 0 && Nat.beq j 0 then (match decAll τ cells with
        | some x => some (x, some b)
        | none => none) else none
      | _ => none
    | _ => none

def VS.v (k : Nat) : (s : VS) → s.den → V
  | .val τ, x => (enc τ x).headD .dead
  | .agg τ, x => .agg (enc τ x)
  | .row _, _ => .sl k 0 none 0
  | .box _, _ => .ptr k 0 0 0

def VS.blk : (s : VS) → s.den → Blk
  | .val _, _ => .none
  | .agg _, _ => .none
  | .row τ, l => .row τ l 0 false
  | .box τ, x => .box (enc τ x)

abbrev Shape := List (Nat × VS)

@[reducible] def Shape.den : Shape → Type
  | [] => Unit
  | s :: r => s.2.den × Shape.den r

def usedN (o : Option Nat) (used : List Nat) : Bool :=
  match o with
  | some b => hasN b used
  | none => false

def Shape.grab (ρ : Nat → V) (M : Mem) : (sh : Shape) → List Nat → Option sh.den
  | [], _ => some ()
  | s :: r, used => match s.2.grab M (ρ s.1) with
    | some (x, ob) => bif usedN ob used then none else match Shape.grab ρ M r (ob.toList ++ used) with
      | some y => some (x, y)
      | none => none
    | none => none

def Shape.putT : (sh : Shape) → Nat → sh.den → (Nat → V)
  | [], _, _ => fun _ => .dead
  | s :: r, k, x => setT (Shape.putT r (k + 1) x.2) s.1 (s.2.v k x.1)

def Shape.putM : (sh : Shape) → Nat → sh.den → Mem
  | [], _, _ => fun _ => .none
  | s :: r, k, x => (Shape.putM r (k + 1) x.2).upd k (s.2.blk x.1)

section
variable {β β' : Nat → Option Loc} {M M' : Mem} {Z : Nat → Prop} {h : Heap}

theorem decAll_ok {τ : Ty} {cs : List V} {vs : List Value} {x : τ.den} (hd : decAll τ cs = some x) (hr : RL β M Z h cs vs) : RD h Z τ x vs := by
  unfold decAll at hd
  split at hd
  · rename_i y hy
    cases hd
    obtain ⟨h1, h2⟩ := dec_ok hy hr
    have hl := h2.1
    simp at hl
    rwa [List.take_of_length_le (by omega)] at h1
  · cases hd

def locOf (β : Nat → Option Loc) (ob : Option Nat) : Option Loc :=
  match ob with
  | some b => β b
  | none => some .virt

/-- one slot -/
theorem VS.grab_ok (hm : RMem β M Z h) {s : VS} {v : V} {u : Value} {x : s.den} {ob : Option Nat} (hg : s.grab M v = some (x, ob)) (hv : RV β M Z h v u) {k : Nat}
    (hM : M' k = s.blk x) (hβ : β' k = locOf β ob) : RV β' M' Z h (s.v k x) u ∧ RB β' M' Z h k ∧
      ∀ cb, lies β' M' k cb → ∃ b, ob = some b ∧ (M b).own = true ∧ lies β M b cb := by
  cases s with
  | val τ =>
    simp only [VS.grab] at hg
    cases hd : decAll τ [v] with
    | none => rw [hd] at hg; cases hg
    | some y =>
      rw [hd] at hg; cases hg
      have h1 := decAll_ok hd (RL.cons hv RL.nil)
      have h2 := RL.of_RD (β := β') (M2 := M') h1
      refine ⟨?_, by unfold RB; rw [hM]; trivial, fun cb hl => ?_⟩
      · simp only [VS.v]
        cases he : enc τ x with
        | nil => exact .dead _
        | cons c r => rw [he] at h2; obtain ⟨w, ws, e1, e2, _⟩ := h2.cons_inv; cases e1; exact e2
      · rw [lies, hM] at hl; exact absurd rfl hl.1
  | agg τ =>
    simp only [VS.grab] at hg
    split at hg
    · rename_i cs
      cases hd : decAll τ cs with
      | none => rw [hd] at hg; cases hg
      | some y =>
        rw [hd] at hg; cases hg
        obtain ⟨vs, rfl, hl, hc⟩ := hv.agg_inv
        have h1 := decAll_ok hd (RL.of_arr hl hc)
        have h2 := RL.of_RD (β := β') (M2 := M') h1
        obtain ⟨e1, e2⟩ := RL.to_arr h2
        refine ⟨.agg _ _ e1 e2, by unfold RB; rw [hM]; trivial, fun cb hl => ?_⟩
        rw [lies, hM] at hl; exact absurd rfl hl.1
    · cases hg
  | row τ =>
    simp only [VS.grab] at hg
    split at hg
    · cases hg
      have := hv.nils_inv; subst this
      simp only [locOf] at hβ
      simp only [VS.blk] at hM
      refine ⟨.sl k 0 none 0 _ rfl (by rw [hM]; simp) fun g0 hg0 => ?_, by unfold RB; rw [hM]; exact .inl ⟨rfl, hβ⟩, fun cb hl => ?_⟩
      · rw [hM] at hg0; simp only [Blk.gen, Option.some.injEq] at hg0; subst hg0
        exact ⟨Nat.le_refl _, fun _ => .inl ⟨hβ, rfl, .inl rfl, rfl⟩⟩
      · rw [lies, hβ] at hl; simp [Loc.blk?] at hl
    · rename_i b i m g
      split at hg
      · rename_i τ' l g' hb
        split at hg
        · rename_i e
          subst e
          cases hq : Nat.beq g g' && Nat.beq i 0 && m.isNone with
          | false => rw [hq] at hg; cases hg
          | true =>
            rw [hq] at hg; cases hg
            simp only [Bool.and_eq_true] at hq
            have q1 := Nat.eq_of_beq_eq_true hq.1.1
            have q2 := Nat.eq_of_beq_eq_true hq.1.2
            have q3 : m = none := by cases m <;> simp_all
            subst q1; subst q2; subst q3
            simp only [locOf] at hβ
            simp only [VS.blk] at hM
            have hgen : (M b).gen = some g := by rw [hb]; rfl
            have hs := hv.sl_inv hgen
            have h1 : u.oneCell' = true := by cases hv; assumption
            have hrb := hm.blk b
            unfold RB at hrb
            rw [hb] at hrb
            simp only at hrb
            refine ⟨.sl k 0 none 0 _ h1 (by rw [hM]; simp) fun g0 hg0 => ?_, ?_, fun cb hl => ⟨b, rfl, by rw [hb]; rfl, ?_⟩⟩
            · rw [hM] at hg0; simp only [Blk.gen, Option.some.injEq] at hg0; subst hg0
              exact ⟨Nat.le_refl _, fun _ => hs.of_eq (by rw [hM, hb]; rfl) hβ⟩
            · unfold RB; rw [hM, hβ]; simp only
              exact hrb
            · rw [lies, hβ] at hl; exact ⟨by rw [hgen]; simp, hl.2⟩
        · cases hg
      · cases hg
    · cases hg
  | box τ =>
    simp only [VS.grab] at hg
    split at hg
    · rename_i b i j g
      split at hg
      · rename_i cells hb
        cases hq : Nat.beq i 0 && Nat.beq j 0 with
        | false => rw [hq] at hg; cases hg
        | true =>
          rw [hq] at hg
          simp only [cond_true] at hg
          cases hd : decAll τ cells with
          | none => rw [hd] at hg; cases hg
          | some y =>
            rw [hd] at hg; cases hg
            simp only [Bool.and_eq_true] at hq
            have q1 := Nat.eq_of_beq_eq_true hq.1
            have q2 := Nat.eq_of_beq_eq_true hq.2
            subst q1; subst q2
            simp only [locOf] at hβ
            simp only [VS.blk] at hM
            have hgen : (M b).gen = some 0 := by rw [hb]; rfl
            have h1 : u.oneCell' = true := by cases hv; assumption
            have hrb := hm.blk b
            unfold RB at hrb
            rw [hb] at hrb
            simp only at hrb
            obtain ⟨cb, T, c, r1, r2, r3, r4⟩ := hrb
            have hrd : RD h Z τ x c.toList := decAll_ok hd (RL.of_arr (by omega) r4)
            obtain ⟨e1, e2⟩ := RL.to_arr (RL.of_RD (β := β') (M2 := M') hrd)
            refine ⟨.ptr k 0 0 0 _ h1 (by rw [hM]; simp) fun g0 hg0 => ?_, ?_, fun cb hl => ⟨b, rfl, by rw [hb]; rfl, ?_⟩⟩
            · rw [hM] at hg0; simp only [Blk.gen, Option.some.injEq] at hg0; subst hg0
              have hp : PtrOk (M b) (β b) 0 0 u := by
                cases hv with | ptr _ _ _ _ _ _ _ hh => 
                obtain ⟨p1, p2⟩ := hh 0 hgen
                exact p2 (by omega)
              exact ⟨Nat.le_refl _, fun _ => hp.of_eq (by rw [hM, hb]; rfl) hβ⟩
            · unfold RB; rw [hM, hβ]; simp only
              exact ⟨cb, T, c, r1, r2, e1.symm, e2⟩
            · rw [lies, hβ] at hl; exact ⟨by rw [hgen]; simp, hl.2⟩
      · cases hg
    · cases hg

theorem putM_lt : ∀ (sh : Shape) (k : Nat) (x : sh.den) (j : Nat), j < k → Shape.putM sh k x j = .none
  | [], _, _, _, _ => rfl
  | s :: r, k, x, j, hj => by
    simp only [Shape.putM]
    rw [upd_ne _ _ (by omega)]
    exact putM_lt r (k + 1) x.2 j (by omega)

theorem Shape.grab_ok (hm : RMem β M Z h) {ρ : Nat → V} {tv : Nat → Value} (hρ : ∀ t, RV β M Z h (ρ t) (tv t)) :
    ∀ (sh : Shape) (used : List Nat) (k : Nat) (x : sh.den), Shape.grab ρ M sh used = some x → ∃ (β' : Nat → Option Loc) (φ : Nat → Option Nat),
      (∀ t, RV β' (Shape.putM sh k x) Z h (Shape.putT sh k x t) (tv t)) ∧ (∀ j, RB β' (Shape.putM sh k x) Z h j) ∧
      (∀ j cb, lies β' (Shape.putM sh k x) j cb → ∃ b, φ j = some b ∧ (M b).own = true ∧ lies β M b cb) ∧ (∀ j b, φ j = some b → b ∉ used) ∧ ∀ j j' b, φ j = some b → φ j' = some b → j = j'
  | [], used, k, x, _ => ⟨fun _ => none, fun _ => none, fun t => .dead _, fun j => by unfold RB Shape.putM; trivial, fun j cb hl => by exact absurd rfl hl.1, fun j b e => (by cases e), fun j j' b e _ => (by cases e)⟩
  | s :: r, used, k, x, hg => by
    simp only [Shape.grab] at hg
    cases h1 : s.2.grab M (ρ s.1) with
    | none => rw [h1] at hg; cases hg
    | some p =>
      obtain ⟨y, ob⟩ := p
      rw [h1] at hg
      simp only at hg
      cases hu : usedN ob used with
      | true => rw [hu] at hg; cases hg
      | false =>
        rw [hu] at hg
        simp only [cond_false] at hg
        cases h2 : Shape.grab ρ M r (ob.toList ++ used) with
        | none => rw [h2] at hg; cases hg
        | some z =>
          rw [h2] at hg
          cases hg
          obtain ⟨β1, φ1, a1, a2, a3, a4, a5⟩ := Shape.grab_ok hm hρ r (ob.toList ++ used) (k + 1) z h2
          let β2 : Nat → Option Loc := fun j => if j = k then locOf β ob else β1 j
          have hk : Shape.putM r (k + 1) z k = .none := putM_lt r (k + 1) z k (by omega)
          have hβk : β2 k = locOf β ob := if_pos rfl
          have hMk : (Shape.putM (s :: r) k (y, z)) k = s.2.blk y := by simp only [Shape.putM]; rw [upd_same]
          have hMo : ∀ j, j ≠ k → (Shape.putM (s :: r) k (y, z)) j = Shape.putM r (k + 1) z j := fun j hj => by simp only [Shape.putM]; rw [upd_ne _ _ hj]
          have hβo : ∀ j, j ≠ k → β2 j = β1 j := fun j hj => if_neg hj
          have gr : Grow β1 (Shape.putM r (k + 1) z) Z h β2 (Shape.putM (s :: r) k (y, z)) Z h := by
            refine ⟨fun _ _ => rfl, fun _ h => h, fun b hb => ?_, fun b hb hgn => ?_, fun b g hgn g' hg' => ?_⟩
            · rw [hMo b (fun e => hb (by rw [e]; exact hk))]; exact hb
            · rw [hMo b (fun e => hb (by rw [e]; exact hk))]; exact hgn
            · have hb : b ≠ k := fun e => by rw [e, hk] at hgn; cases hgn
              rw [hMo b hb] at hg' ⊢
              rw [hgn] at hg'; cases hg'
              exact ⟨Nat.le_refl _, fun _ => ⟨hβo b hb, rfl, rfl, rfl⟩⟩
          obtain ⟨b1, b2, b3⟩ := VS.grab_ok hm h1 (hρ s.1) (M' := Shape.putM (s :: r) k (y, z)) (β' := β2) hMk hβk
          have notin : ∀ b, ob = some b → b ∉ used := fun b e hin => by
            rw [e] at hu; simp only [usedN] at hu; exact hasN_not.1 hu hin
          let φ2 : Nat → Option Nat := fun j => if j = k then ob else φ1 j
          have hφk : φ2 k = ob := if_pos rfl
          have hφo : ∀ j, j ≠ k → φ2 j = φ1 j := fun j hj => if_neg hj
          refine ⟨β2, φ2, fun t => ?_, fun j => ?_, fun j cb hl => ?_, fun j b e => ?_, fun j j' b e e' => ?_⟩
          · simp only [Shape.putT]
            by_cases e : t = s.1
            · subst e; rw [setT_same]; exact b1
            · rw [setT_ne _ _ e]; exact (a1 t).mono gr
          · by_cases e : j = k
            · subst e; exact b2
            · exact (a2 j).keep gr (hMo j e) (fun _ => hβo j e) fun _ _ => rfl
          · by_cases e : j = k
            · subst e
              obtain ⟨b, q1, q2, q3⟩ := b3 cb hl
              exact ⟨b, hφk.trans q1, q2, q3⟩
            · obtain ⟨b, q1, q3, q4⟩ := a3 j cb (by unfold lies at *; rwa [hMo j e, hβo j e] at hl)
              exact ⟨b, (hφo j e).trans q1, q3, q4⟩
          · by_cases ek : j = k
            · subst ek; exact notin b (hφk.symm.trans e)
            · exact fun hin => a4 j b ((hφo j ek).symm.trans e) (List.mem_append_right _ hin)
          · by_cases ek : j = k
            · by_cases ek' : j' = k
              · rw [ek, ek']
              · subst ek
                have e1 := hφk.symm.trans e
                have e2 := (hφo j' ek').symm.trans e'
                exact absurd (List.mem_append_left _ (by rw [e1]; simp)) (a4 j' b e2)
            · by_cases ek' : j' = k
              · subst ek'
                have e1 := hφk.symm.trans e'
                have e2 := (hφo j ek).symm.trans e
                exact absurd (List.mem_append_left _ (by rw [e1]; simp)) (a4 j b e2)
              · exact a5 j j' b ((hφo j ek).symm.trans e) ((hφo j' ek').symm.trans e')

/-- grabbed and put down -/
theorem Shape.ok {nt : Nat} {ρ : Nat → V} {a : Act} {w : World} (hr : Rel β M Z nt ρ a w) {sh : Shape} {x : sh.den} (hg : Shape.grab ρ M sh [] = some x) (k : Nat) :
    ∃ β', Rel β' (Shape.putM sh k x) Z nt (Shape.putT sh k x) a w ∧ ∀ cb, owned β' (Shape.putM sh k x) cb → owned β M cb := by
  obtain ⟨β', φ, a1, a2, a3, a4, a5⟩ := Shape.grab_ok hr.mem hr.tmps sh [] k x hg
  refine ⟨β', ⟨a1, hr.size, a2, fun b b' cb ho hl hl' => ?_, fun cb hz ho => ?_, hr.mem.zlt⟩, fun cb ho => ?_⟩
  · obtain ⟨c, q1, q2, q3⟩ := a3 b cb hl
    obtain ⟨c', q1', q2', q3'⟩ := a3 b' cb hl'
    have := hr.mem.sep c c' cb q2 q3 q3'
    subst this
    exact a5 b b' c q1 q1'
  · obtain ⟨b, h1, h2⟩ := ho
    obtain ⟨c, q1, q2, q3⟩ := a3 b cb h2
    exact hr.mem.zown cb hz ⟨c, q2, q3⟩
  · obtain ⟨b, h1, h2⟩ := ho
    obtain ⟨c, q1, q2, q3⟩ := a3 b cb h2
    exact ⟨c, q2, q3⟩

end
end Go.Pv
