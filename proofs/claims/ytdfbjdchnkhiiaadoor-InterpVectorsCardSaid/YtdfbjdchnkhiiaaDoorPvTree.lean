/-
  Shapes with structure: a slot of a frame may hold boxes and live rows within; grabbed as typed data, and put down again with all else forgotten.
-/
import Derived.Test.YtdfbjdchnkhiiaaDoorPvShape
import Derived.Test.YtdfbjdchnkhiiaaDoorPvSpec2
namespace Go.Pv

/-- what stands in cells -/
inductive Tr where
  | unit
  /-- data -/
  | dat (τ : Ty)
  /-- one cell: a slice of a live row of its own, from its begin on -/
  | row (τ : Ty)
  /-- one cell: a pointer to a variable of its own -/
  | box (t : Tr)
  | pair (a b : Tr)

@[reducible] def Tr.den : Tr → Type
  | .unit => Unit
  | .dat τ => τ.den
  | .row τ => List τ.den
  | .box t => t.den
  | .pair a b => a.den × b.den

/-- a tuple -/
def Tr.tup : List Tr → Tr
  | [] => .unit
  | [a] => a
  | a :: b :: r => .pair a (Tr.tup (b :: r))

def Tr.wid : Tr → Nat
  | .unit => 0
  | .dat _ => 0
  | .row _ => 1
  | .box t => t.wid + 1
  | .pair a b => a.wid + b.wid

def Tr.grab (M : Mem) : (t : Tr) → List V → Option (t.den × List V × List (Option Nat))
  | .unit, cs => some ((), cs, [])
  | .dat τ, cs => match dec τ cs with
    | some (x, r) => some (x, r, [])
    | none => none
  | .row τ, cs => match cs with
    | [] => none
    | v :: r => match v with
      | .nils => some ([], r, [none])
      | .sl b i m g => match M b with
        | .row τ' l g' false => if h : τ' = τ then (bif Nat.beq g g' && Nat.beq i 0 then some (cut (h ▸ l) 0 m, r, [some b]) else none) else none
        | _ => none
      | _ => none
  | .box t, cs => match cs with
    | [] => none
    | v :: r => match v with
      | .ptr b i j _ => match M b with
        | .box cells => bif Nat.beq i 0 && Nat.beq j 0 then (match t.grab M cells with
          | some (x, q, obs) => match q with
            | [] => some (x, r, some b :: obs)
            | _ => none
          | none => none) else none
        | _ => none
      | _ => none
  | .pair a b, cs => match a.grab M cs with
    | some (x, r, o1) => match b.grab M r with
      | some (y, r', o2) => some ((x, y), r', o1 ++ o2)
      | none => none
    | none => none

def Tr.cells : (t : Tr) → Nat → t.den → List V
  | .unit, _, _ => []
  | .dat τ, _, x => enc τ x
  | .row _, k, _ => [.sl k 0 none 0]
  | .box _, k, _ => [.ptr k 0 0 0]
  | .pair a b, k, x => a.cells k x.1 ++ b.cells (k + a.wid) x.2

def Tr.mem : (t : Tr) → Nat → t.den → Mem
  | .unit, _, _ => fun _ => .none
  | .dat _, _, _ => fun _ => .none
  | .row τ, k, l => fun n => bif Nat.beq n k then .row τ l 0 false else .none
  | .box t, k, x => fun n => bif Nat.beq n k then .box (t.cells (k + 1) x) else t.mem (k + 1) x n
  | .pair a b, k, x => fun n => bif Nat.blt n (k + a.wid) then a.mem k x.1 n else b.mem (k + a.wid) x.2 n

section
variable {β β' : Nat → Option Loc} {M M' : Mem} {Z : Nat → Prop} {h : Heap}

theorem blt_iff {a b : Nat} : Nat.blt a b = true ↔ a < b := by
  constructor
  · intro e; exact Nat.le_of_ble_eq_true e
  · intro e; exact Nat.ble_eq_true_of_le e
theorem blt_false {a b : Nat} (h : b ≤ a) : Nat.blt a b = false := by
  cases e : Nat.blt a b with
  | false => rfl
  | true => have := blt_iff.1 e; omega
theorem beq_self (a : Nat) : Nat.beq a a = true := Nat.beq_refl a
theorem beq_ne {a b : Nat} (h : a ≠ b) : Nat.beq a b = false := by
  cases e : Nat.beq a b with
  | false => rfl
  | true => exact absurd (Nat.eq_of_beq_eq_true e) h

theorem Tr.mem_lt : ∀ (t : Tr) (k : Nat) (x : t.den) (n : Nat), n < k → t.mem k x n = .none
  | .unit, _, _, _, _ => rfl
  | .dat _, _, _, _, _ => rfl
  | .row τ, k, l, n, hn => by simp only [Tr.mem, beq_ne (show n ≠ k by omega), cond_false]
  | .box t, k, x, n, hn => by
    simp only [Tr.mem, beq_ne (show n ≠ k by omega), cond_false]
    exact t.mem_lt (k + 1) x n (by omega)
  | .pair a b, k, x, n, hn => by
    simp only [Tr.mem, blt_iff.2 (show n < k + a.wid by omega), cond_true]
    exact a.mem_lt k x.1 n hn

theorem Tr.mem_ge : ∀ (t : Tr) (k : Nat) (x : t.den) (n : Nat), k + t.wid ≤ n → t.mem k x n = .none
  | .unit, _, _, _, _ => rfl
  | .dat _, _, _, _, _ => rfl
  | .row τ, k, l, n, hn => by
    simp only [Tr.wid] at hn
    simp only [Tr.mem, beq_ne (show n ≠ k by omega), cond_false]
  | .box t, k, x, n, hn => by
    simp only [Tr.wid] at hn
    simp only [Tr.mem, beq_ne (show n ≠ k by omega), cond_false]
    exact t.mem_ge (k + 1) x n (by omega)
  | .pair a b, k, x, n, hn => by
    simp only [Tr.wid] at hn
    simp only [Tr.mem, blt_false (show k + a.wid ≤ n by omega), cond_false]
    exact b.mem_ge (k + a.wid) x.2 n (by omega)

theorem RL.split {cs ds : List V} {vs : List Value} (r : RL β M Z h (cs ++ ds) vs) : ∃ us ws, vs = us ++ ws ∧ RL β M Z h cs us ∧ RL β M Z h ds ws := by
  induction cs generalizing vs with
  | nil => exact ⟨[], vs, rfl, RL.nil, r⟩
  | cons c cs ih =>
    obtain ⟨v, vs', rfl, h1, h2⟩ := r.cons_inv
    obtain ⟨us, ws, rfl, h3, h4⟩ := ih h2
    exact ⟨v :: us, ws, rfl, RL.cons h1 h3, h4⟩

theorem RL.join {cs ds : List V} {us ws : List Value} (r : RL β M Z h cs us) (q : RL β M Z h ds ws) : RL β M Z h (cs ++ ds) (us ++ ws) := by
  induction cs generalizing us with
  | nil =>
    have : us = [] := by have := r.1; simpa using this.symm
    subst this; exact q
  | cons c cs ih =>
    obtain ⟨v, vs', rfl, h1, h2⟩ := r.cons_inv
    exact RL.cons h1 (ih h2)

theorem dec_split {τ : Ty} {cs r : List V} {vs : List Value} {x : τ.den} (hd : dec τ cs = some (x, r)) (hr : RL β M Z h cs vs) : ∃ us ws, vs = us ++ ws ∧ RD h Z τ x us ∧ RL β M Z h r ws := by
  obtain ⟨h1, h2⟩ := dec_ok hd hr
  exact ⟨_, _, (List.take_append_drop _ vs).symm, h1, h2⟩

/-- what a tree's blocks are -/
structure TrOK (β : Nat → Option Loc) (M : Mem) (Z : Nat → Prop) (h : Heap) (β' : Nat → Option Loc) (M' : Mem) (obs : List (Option Nat)) (k : Nat) : Prop where
  rb : ∀ j, j < obs.length → RB β' M' Z h (k + j)
  from_ : ∀ j, j < obs.length → ∀ cb, lies β' M' (k + j) cb → ∃ b, obs.getD j none = some b ∧ (M b).own = true ∧ lies β M b cb

theorem Tr.grab_len : ∀ (t : Tr) {cs : List V} {x : t.den} {rest : List V} {obs : List (Option Nat)}, t.grab M cs = some (x, rest, obs) → obs.length = t.wid
  | .unit, cs, x, rest, obs, hg => by simp only [Tr.grab, Option.some.injEq, Prod.mk.injEq] at hg; rw [← hg.2.2]; rfl
  | .dat τ, cs, x, rest, obs, hg => by
    simp only [Tr.grab] at hg
    split at hg
    · simp only [Option.some.injEq, Prod.mk.injEq] at hg; rw [← hg.2.2]; rfl
    · cases hg
  | .row τ, cs, x, rest, obs, hg => by
    simp only [Tr.grab] at hg
    split at hg
    · cases hg
    · split at hg
      · simp only [Option.some.injEq, Prod.mk.injEq] at hg; rw [← hg.2.2]; rfl
      · split at hg
        · split at hg
          · rename_i b i m g _ τ' l g' _ _
            cases hq : Nat.beq g g' && Nat.beq i 0 with
            | false => rw [hq] at hg; cases hg
            | true => rw [hq] at hg; simp only [cond_true, Option.some.injEq, Prod.mk.injEq] at hg; rw [← hg.2.2]; rfl
          · cases hg
        · cases hg
      · cases hg
  | .box t, cs, x, rest, obs, hg => by
    simp only [Tr.grab] at hg
    split at hg
    · cases hg
    · split at hg
      · split at hg
        · rename_i b i j g _ cells _
          cases hq : Nat.beq i 0 && Nat.beq j 0 with
          | false => rw [hq] at hg; cases hg
          | true =>
            rw [hq] at hg
            simp only [cond_true] at hg
            split at hg
            · rename_i y q o hy
              split at hg
              · simp only [Option.some.injEq, Prod.mk.injEq] at hg
                rw [← hg.2.2]
                simp only [List.length_cons, Tr.wid]
                rw [t.grab_len hy]
              · cases hg
            · cases hg
        · cases hg
      · cases hg
  | .pair a b, cs, x, rest, obs, hg => by
    simp only [Tr.grab] at hg
    split at hg
    · rename_i y r o1 h1
      split at hg
      · rename_i z r' o2 h2
        simp only [Option.some.injEq, Prod.mk.injEq] at hg
        rw [← hg.2.2]
        simp only [List.length_append, Tr.wid]
        rw [a.grab_len h1, b.grab_len h2]
      · cases hg
    · cases hg

theorem cut0_get {α : Type} {l : List α} {m : Option Nat} {k : Nat} {x : α} (h : (cut l 0 m)[k]? = some x) : l[k]? = some x := by
  unfold cut at h
  cases m with
  | none => simpa using h
  | some m =>
    simp only [List.getElem?_take] at h
    split at h
    · simpa using h
    · cases h

theorem getD_nil {α : Type} {j : Nat} {d : α} : ([] : List α).getD j d = d := by simp [List.getD]

theorem Tr.grab_ok (hm : RMem β M Z h) : ∀ (t : Tr) {cs : List V} {vs : List Value} {x : t.den} {rest : List V} {obs : List (Option Nat)}, t.grab M cs = some (x, rest, obs) → RL β M Z h cs vs →
    ∀ (k : Nat), (∀ j, j < obs.length → β' (k + j) = locOf β (obs.getD j none)) → (∀ j, j < obs.length → M' (k + j) = t.mem k x (k + j)) →
    ∃ us ws, vs = us ++ ws ∧ RL β' M' Z h (t.cells k x) us ∧ RL β M Z h rest ws ∧ TrOK β M Z h β' M' obs k
  | .unit, cs, vs, x, rest, obs, hg, hr, k, _, _ => by
    simp only [Tr.grab, Option.some.injEq, Prod.mk.injEq] at hg
    obtain ⟨_, rfl, rfl⟩ := hg
    exact ⟨[], vs, rfl, RL.nil, hr, ⟨fun j hj => by simp at hj, fun j hj => by simp at hj⟩⟩
  | .dat τ, cs, vs, x, rest, obs, hg, hr, k, _, _ => by
    simp only [Tr.grab] at hg
    split at hg
    · rename_i y r hd
      simp only [Option.some.injEq, Prod.mk.injEq] at hg
      obtain ⟨rfl, rfl, rfl⟩ := hg
      obtain ⟨us, ws, rfl, h1, h2⟩ := dec_split hd hr
      exact ⟨us, ws, rfl, RL.of_RD h1, h2, ⟨fun j hj => by simp at hj, fun j hj => by simp at hj⟩⟩
    · cases hg
  | .row τ, cs, vs, x, rest, obs, hg, hr, k, hβ, hM => by
    simp only [Tr.grab] at hg
    split at hg
    · cases hg
    · rename_i v r
      obtain ⟨u, ws, rfl, hv, hr2⟩ := hr.cons_inv
      split at hg
      · simp only [Option.some.injEq, Prod.mk.injEq] at hg
        obtain ⟨rfl, rfl, rfl⟩ := hg
        have := hv.nils_inv; subst this
        have e1 := hβ 0 (by simp)
        have e2 := hM 0 (by simp)
        simp only [Nat.add_zero, List.getD_cons_zero, locOf] at e1
        simp only [Nat.add_zero, Tr.mem, beq_self, cond_true] at e2
        refine ⟨[_], ws, rfl, RL.cons (.sl k 0 none 0 _ rfl (by rw [e2]; simp) fun g0 hg0 => ?_) RL.nil, hr2, ⟨fun j hj => ?_, fun j hj cb hl => ?_⟩⟩
        · rw [e2] at hg0; simp only [Blk.gen, Option.some.injEq] at hg0; subst hg0
          exact ⟨Nat.le_refl _, fun _ => .inl ⟨e1, rfl, .inl rfl, rfl⟩⟩
        · have : j = 0 := by simpa using hj
          subst this
          unfold RB; rw [Nat.add_zero, e2]; exact .inl ⟨rfl, e1⟩
        · have : j = 0 := by simpa using hj
          subst this
          rw [lies, Nat.add_zero, e1] at hl; simp [Loc.blk?] at hl
      · rename_i b i m g
        split at hg
        · rename_i τ' l g' hb
          split at hg
          · rename_i e
            subst e
            cases hq : Nat.beq g g' && Nat.beq i 0 with
            | false => rw [hq] at hg; cases hg
            | true =>
              rw [hq] at hg
              simp only [cond_true, Option.some.injEq, Prod.mk.injEq] at hg
              obtain ⟨rfl, rfl, rfl⟩ := hg
              simp only [Bool.and_eq_true] at hq
              have q1 := Nat.eq_of_beq_eq_true hq.1
              have q2 := Nat.eq_of_beq_eq_true hq.2
              subst q1; subst q2
              have e1 := hβ 0 (by simp)
              have e2 := hM 0 (by simp)
              simp only [Nat.add_zero, List.getD_cons_zero, locOf] at e1
              simp only [Nat.add_zero, Tr.mem, beq_self, cond_true] at e2
              have hgen : (M b).gen = some g := by rw [hb]; rfl
              have hs := hv.sl_inv hgen
              have h1 : u.oneCell' = true := by cases hv; assumption
              have hrb := hm.blk b
              unfold RB at hrb
              rw [hb] at hrb hs
              simp only at hrb
              have hle : (cut l 0 m).length ≤ l.length := by cases m <;> simp [cut]; omega
              have hget : ∀ i x, (cut l 0 m)[i]? = some x → l[i]? = some x := fun i x hx => cut0_get hx
              refine ⟨[u], ws, rfl, RL.cons (.sl k 0 none 0 _ h1 (by rw [e2]; simp) fun g0 hg0 => ?_) RL.nil, hr2, ⟨fun j hj => ?_, fun j hj cb hl => ?_⟩⟩
              · rw [e2] at hg0; simp only [Blk.gen, Option.some.injEq] at hg0; subst hg0
                refine ⟨Nat.le_refl _, fun _ => ?_⟩
                rw [e2, e1]
                rcases hs with ⟨f0, _, _, f1⟩ | ⟨cb, base, sz, top, off, len, cap, f1, f2, f3, f4, f5, f6, f7⟩
                · exact .inl ⟨f0, rfl, .inl rfl, f1⟩
                · refine .inr ⟨cb, base, sz, top, off, len, cap, f1, f2, f3, f4, f5, f6, ?_⟩
                  cases m with
                  | none => simp only [Blk.cnt] at f7 ⊢; simpa [cut] using f7
                  | some m =>
                    simp only [Blk.cnt] at f7 ⊢
                    simp only [cut, List.drop_zero, List.length_take]; omega
              · have : j = 0 := by simpa using hj
                subst this
                unfold RB; rw [Nat.add_zero, e2, e1]; simp only
                rcases hrb with ⟨f0, f1⟩ | ⟨cb, base, Te, c, fz, f1, f2, f3, f4, f5, f6⟩
                · left
                  subst f0
                  refine ⟨?_, f1⟩
                  cases m <;> simp [cut]
                · right
                  refine ⟨cb, base, Te, c, fz, f1, f2, f3, ?_, fun i x hx => f5 i x (hget i x hx), f6⟩
                  have := Nat.mul_le_mul_right τ'.size hle
                  omega
              · have : j = 0 := by simpa using hj
                subst this
                refine ⟨b, rfl, by rw [hb]; rfl, ?_⟩
                rw [lies, Nat.add_zero, e1] at hl
                exact ⟨by rw [hgen]; simp, hl.2⟩
          · cases hg
        · cases hg
      · cases hg
  | .box t, cs, vs, x, rest, obs, hg, hr, k, hβ, hM => by
    simp only [Tr.grab] at hg
    split at hg
    · cases hg
    · rename_i v r
      obtain ⟨u, ws, rfl, hv, hr2⟩ := hr.cons_inv
      split at hg
      · rename_i b i j g
        split at hg
        · rename_i cells hb
          cases hq : Nat.beq i 0 && Nat.beq j 0 with
          | false => rw [hq] at hg; cases hg
          | true =>
            rw [hq] at hg
            simp only [cond_true] at hg
            split at hg
            · rename_i y q o hy
              split at hg
              · simp only [Option.some.injEq, Prod.mk.injEq] at hg
                obtain ⟨rfl, rfl, rfl⟩ := hg
                simp only [Bool.and_eq_true] at hq
                have q1 := Nat.eq_of_beq_eq_true hq.1
                have q2 := Nat.eq_of_beq_eq_true hq.2
                subst q1; subst q2
                have e1 := hβ 0 (by simp)
                have e2 := hM 0 (by simp)
                simp only [Nat.add_zero, List.getD_cons_zero, locOf] at e1
                simp only [Nat.add_zero, Tr.mem, beq_self, cond_true] at e2
                have hgen : (M b).gen = some 0 := by rw [hb]; rfl
                have h1 : u.oneCell' = true := by cases hv; assumption
                have hrb := hm.blk b
                unfold RB at hrb
                rw [hb] at hrb
                simp only at hrb
                obtain ⟨cb, T, c, r1, r2, r3, r4⟩ := hrb
                have hcr : RL β M Z h cells c.toList := RL.of_arr (by omega) r4
                obtain ⟨us, ws', hsp, g1, g2, g3⟩ := t.grab_ok hm hy hcr (k + 1) (fun j hj => by
                  have := hβ (j + 1) (by simp; omega)
                  rw [show k + 1 + j = k + (j + 1) by omega, this]; simp) (fun j hj => by
                  have := hM (j + 1) (by simp; omega)
                  rw [show k + 1 + j = k + (j + 1) by omega, this]
                  simp only [Tr.mem]
                  rw [beq_ne (by omega)]
                  rfl)
                have hw0 : ws' = [] := by have := g2.1; simpa using this.symm
                subst hw0
                rw [List.append_nil] at hsp
                rw [← hsp] at g1
                obtain ⟨t1, t2⟩ := RL.to_arr (vs := c) g1
                refine ⟨[u], ws, rfl, RL.cons (.ptr k 0 0 0 _ h1 (by rw [e2]; simp) fun g0 hg0 => ?_) RL.nil, hr2, ⟨fun j hj => ?_, fun j hj cb' hl => ?_⟩⟩
                · rw [e2] at hg0; simp only [Blk.gen, Option.some.injEq] at hg0; subst hg0
                  have hp : PtrOk (M b) (β b) 0 0 u := by
                    cases hv with | ptr _ _ _ _ _ _ _ hh =>
                    obtain ⟨p1, p2⟩ := hh 0 hgen
                    exact p2 (by omega)
                  exact ⟨Nat.le_refl _, fun _ => hp.of_eq (by rw [e2, hb]; rfl) e1⟩
                · cases j with
                  | zero =>
                    unfold RB; rw [Nat.add_zero, e2, e1]; simp only
                    exact ⟨cb, T, c, r1, r2, t1.symm, t2⟩
                  | succ j =>
                    have := g3.rb j (by simpa using hj)
                    rwa [show k + 1 + j = k + (j + 1) by omega] at this
                · cases j with
                  | zero =>
                    refine ⟨b, rfl, by rw [hb]; rfl, ?_⟩
                    rw [lies, Nat.add_zero, e1] at hl
                    exact ⟨by rw [hgen]; simp, hl.2⟩
                  | succ j =>
                    have := g3.from_ j (by simpa using hj) cb'
                    rw [show k + 1 + j = k + (j + 1) by omega] at this
                    simpa using this hl
              · cases hg
            · cases hg
        · cases hg
      · cases hg
  | .pair a b, cs, vs, x, rest, obs, hg, hr, k, hβ, hM => by
    simp only [Tr.grab] at hg
    split at hg
    · rename_i y r o1 h1
      split at hg
      · rename_i z r' o2 h2
        simp only [Option.some.injEq, Prod.mk.injEq] at hg
        obtain ⟨rfl, rfl, rfl⟩ := hg
        have l1 := a.grab_len h1
        have l2 := b.grab_len h2
        obtain ⟨us1, ws1, rfl, a1, a2, a3⟩ := a.grab_ok hm h1 hr k (fun j hj => by
          rw [hβ j (by simp; omega)]; congr 1; simp [List.getD, List.getElem?_append_left hj]) (fun j hj => by
          rw [hM j (by simp; omega)]
          simp only [Tr.mem]
          rw [blt_iff.2 (by omega)]; rfl)
        obtain ⟨us2, ws2, rfl, b1, b2, b3⟩ := b.grab_ok hm h2 a2 (k + a.wid) (fun j hj => by
          have := hβ (o1.length + j) (by simp; omega)
          rw [show k + a.wid + j = k + (o1.length + j) by omega, this]
          congr 1
          simp [List.getD, List.getElem?_append_right]) (fun j hj => by
          have := hM (o1.length + j) (by simp; omega)
          rw [show k + a.wid + j = k + (o1.length + j) by omega, this]
          simp only [Tr.mem]
          rw [blt_false (by omega)]; rfl)
        refine ⟨us1 ++ us2, ws2, by rw [List.append_assoc], a1.join b1, b2, ⟨fun j hj => ?_, fun j hj cb hl => ?_⟩⟩
        · by_cases hlt : j < o1.length
          · exact a3.rb j hlt
          · have := b3.rb (j - o1.length) (by simp at hj; omega)
            rwa [show k + a.wid + (j - o1.length) = k + j by omega] at this
        · by_cases hlt : j < o1.length
          · have := a3.from_ j hlt cb hl
            simpa [List.getD, List.getElem?_append_left hlt] using this
          · have := b3.from_ (j - o1.length) (by simp at hj; omega) cb
            rw [show k + a.wid + (j - o1.length) = k + j by omega] at this
            have := this hl
            simpa [List.getD, List.getElem?_append_right (Nat.not_lt.1 hlt)] using this
      · cases hg
    · cases hg

end

/-! ### Freezing -/
/-- live slices become frozen data; what is written for it -/
def frz1 (M : Mem) : V → V × List (Nat × Blk)
  | .sl b i m g => match M b with
    | .row τ l g' _ => bif Nat.beq g g' then (.fz τ (cut l i m), [(b, .row τ l g' true)]) else (.sl b i m g, [])
    | _ => (.sl b i m g, [])
  | v => (v, [])

def frzL (M : Mem) : List V → List V × List (Nat × Blk)
  | [] => ([], [])
  | v :: r => match frz1 M v with
    | (v', u) => match frzL (M.upds u) r with
      | (r', u') => (v' :: r', u ++ u')

def frzV (M : Mem) (v : V) : V × List (Nat × Blk) :=
  match v with
  | .agg cs => match frzL M cs with
    | (cs', u) => (.agg cs', u)
  | v => frz1 M v

/-- values one after the other -/
def frzA (M : Mem) : List V → List V × List (Nat × Blk)
  | [] => ([], [])
  | v :: r => match frzV M v with
    | (v', u) => match frzA (M.upds u) r with
      | (r', u') => (v' :: r', u ++ u')

section
variable {β β' : Nat → Option Loc} {M M' : Mem} {Z : Nat → Prop} {w : World}

theorem upds_append (M : Mem) : ∀ (u v : List (Nat × Blk)), M.upds (u ++ v) = (M.upds u).upds v
  | [], _ => rfl
  | (b, k) :: r, v => by
    simp only [List.cons_append, Mem.upds]
    exact upds_append (M.upd b k) r v

/-- what freezing comes to: nothing in the world; the state says less -/
structure FrzOK (β : Nat → Option Loc) (M : Mem) (Z : Nat → Prop) (w : World) (u : List (Nat × Blk)) (Z' : Nat → Prop) : Prop where
  mem : RMem β (M.upds u) Z' w.heap
  ev : EvW β M Z w β (M.upds u) Z' w

theorem FrzOK.none (hm : RMem β M Z w.heap) : FrzOK β M Z w [] Z := ⟨hm, EvW.refl _ _ _ _⟩
theorem FrzOK.trans {u v : List (Nat × Blk)} {Z' Z'' : Nat → Prop} (h1 : FrzOK β M Z w u Z') (h2 : FrzOK β (M.upds u) Z' w v Z'') : FrzOK β M Z w (u ++ v) Z'' :=
  ⟨by rw [upds_append]; exact h2.mem, by rw [upds_append]; exact h1.ev.trans h2.ev⟩

theorem frz_row (hm : RMem β M Z w.heap) {b : Nat} {τ : Ty} {l : List τ.den} {g : Nat} {ro : Bool} (hb : M b = .row τ l g ro) :
    FrzOK β M Z w [(b, .row τ l g true)] fun cb => Z cb ∨ lies β M b cb := by
  have hM : ∀ b', b' ≠ b → (M.upd b (.row τ l g true)) b' = M b' := fun b' h => upd_ne _ _ h
  have hMb : (M.upd b (.row τ l g true)) b = .row τ l g true := upd_same _ _ _
  have hgen : ∀ b', ((M.upd b (.row τ l g true)) b').gen = (M b').gen := fun b' => by
    by_cases e : b' = b
    · subst e; rw [hMb, hb]; rfl
    · rw [hM b' e]
  have hlies : ∀ b' cb, lies β (M.upd b (.row τ l g true)) b' cb ↔ lies β M b' cb := fun b' cb => by unfold lies; rw [hgen]
  have hown : ∀ b', ((M.upd b (.row τ l g true)) b').own = true → b' ≠ b ∧ (M b').own = true := fun b' h => by
    by_cases e : b' = b
    · subst e; rw [hMb] at h; cases h
    · rw [hM b' e] at h; exact ⟨e, h⟩
  have gr : Grow β M Z w.heap β (M.upd b (.row τ l g true)) (fun cb => Z cb ∨ lies β M b cb) w.heap := by
    refine ⟨fun _ _ => rfl, fun _ h => .inl h, fun b' h => ?_, fun b' _ h => by rw [hgen]; exact h, fun b' g0 hg0 g1 hg1 => ?_⟩
    · by_cases e : b' = b
      · subst e; rw [hMb]; simp
      · rw [hM b' e]; exact h
    · rw [hgen, hg0] at hg1; cases hg1
      refine ⟨Nat.le_refl _, fun _ => ?_⟩
      by_cases e : b' = b
      · subst e; rw [hMb, hb]; exact ⟨rfl, rfl, rfl, rfl⟩
      · rw [hM b' e]; exact ⟨rfl, rfl, rfl, rfl⟩
  have lie_b : ∀ cb, lies β M b cb → Z cb ∨ (M b).own = true := fun cb hl => by
    cases ro with
    | false => right; rw [hb]; rfl
    | true =>
      left
      have hrb := hm.blk b
      unfold RB at hrb
      rw [hb] at hrb
      rcases hrb with ⟨_, f1⟩ | ⟨cb', base, T, c, fz, f1, _, _, _, _, f6⟩
      · rw [lies, f1] at hl; simp [Loc.blk?] at hl
      · rw [lies, f1] at hl
        simp only [Loc.blk?, Option.some.injEq] at hl
        rw [← hl.2]; exact f6 rfl
  refine ⟨⟨fun b' => ?_, fun b' b'' cb h1 h2 h3 => ?_, fun cb hz ho => ?_, hm.zlt.mono (fun _ _ => rfl) (fun _ h => .inl h) fun cb hz => ?_⟩, ⟨{ toGrow := gr, size := Nat.le_refl _, frame := fun _ _ _ => rfl, own := fun cb ho => .inr ?_, znew := fun cb hz => ?_ }, Wd.refl _⟩⟩
  · simp only [Mem.upds]
    by_cases e : b' = b
    · subst e
      have hrb := hm.blk b'
      unfold RB at hrb ⊢
      rw [hb] at hrb
      rw [hMb]
      simp only at hrb ⊢
      rcases hrb with f | ⟨cb', base, T, c, fz, f1, f2, f3, f4, f5, f6⟩
      · exact .inl f
      · refine .inr ⟨cb', base, T, c, fz, f1, f2, (fun h => by cases h), f4, fun i x hx => (f5 i x hx).more fun _ h => .inl h, fun _ => .inr ?_⟩
        exact ⟨by rw [hb]; simp [Blk.gen], by rw [f1]; rfl⟩
    · exact (hm.blk b').keep gr (hM b' e) (fun _ => rfl) fun _ _ => rfl
  · obtain ⟨e1, e2⟩ := hown b' h1
    exact hm.sep b' b'' cb e2 ((hlies b' cb).1 h2) ((hlies b'' cb).1 h3)
  · obtain ⟨b', h1, h2⟩ := ho
    obtain ⟨e1, e2⟩ := hown b' h1
    have h3 := (hlies b' cb).1 h2
    rcases hz with hz | hz
    · exact hm.zown cb hz ⟨b', e2, h3⟩
    · exact e1 (hm.sep b' b cb e2 h3 hz)
  · rcases hz with hz | hz
    · exact hm.zlt.lt cb hz
    · exact lies_lt (hm.blk b) hz
  · obtain ⟨b', h1, h2⟩ := ho
    obtain ⟨e1, e2⟩ := hown b' h1
    exact ⟨b', e2, (hlies b' cb).1 h2⟩
  · rcases hz with hz | hz
    · exact .inl hz
    · rcases lie_b cb hz with h | h
      · exact .inl h
      · exact .inr (.inr ⟨b, h, hz⟩)

theorem frz1_ok (hm : RMem β M Z w.heap) {v : V} {x : Value} (hv : RV β M Z w.heap v x) : ∃ Z', FrzOK β M Z w (frz1 M v).2 Z' ∧ RV β (M.upds (frz1 M v).2) Z' w.heap (frz1 M v).1 x := by
  unfold frz1
  split
  · rename_i b i m g
    split
    · rename_i τ l g' ro hb
      cases hq : Nat.beq g g' with
      | false => exact ⟨Z, FrzOK.none hm, hv⟩
      | true =>
        have := Nat.eq_of_beq_eq_true hq
        subst this
        simp only [cond_true]
        have hf := frz_row (w := w) hm hb
        refine ⟨_, hf, .fz _ _ _ ?_⟩
        have hl : lend M (.slice τ) (.sl b i m g) = some (cut l i m, [b]) := by
          unfold lend
          simp only [hb, dite_true, beq_self, cond_true]
        exact lend_ok hm hl hv (fun cb h => .inl h) fun b' hb' cb hlie => by
          simp at hb'; subst hb'; exact .inr hlie
    · exact ⟨Z, FrzOK.none hm, hv⟩
  · exact ⟨Z, FrzOK.none hm, hv⟩

theorem frzL_ok : ∀ {cs : List V} {M : Mem} {Z : Nat → Prop} {xs : List Value}, RMem β M Z w.heap → RL β M Z w.heap cs xs → ∃ Z', FrzOK β M Z w (frzL M cs).2 Z' ∧ RL β (M.upds (frzL M cs).2) Z' w.heap (frzL M cs).1 xs
  | [], M, Z, xs, hm, hr => ⟨Z, FrzOK.none hm, hr⟩
  | v :: r, M, Z, xs, hm, hr => by
    obtain ⟨u, us, rfl, h1, h2⟩ := hr.cons_inv
    obtain ⟨Z1, f1, r1⟩ := frz1_ok hm h1
    obtain ⟨Z2, f2, r2⟩ := frzL_ok f1.mem (h2.mono f1.ev.toEv.toGrow)
    refine ⟨Z2, f1.trans f2, ?_⟩
    simp only [frzL]
    rw [upds_append]
    exact RL.cons (r1.mono f2.ev.toEv.toGrow) r2

theorem frzV_ok (hm : RMem β M Z w.heap) {v : V} {x : Value} (hv : RV β M Z w.heap v x) : ∃ Z', FrzOK β M Z w (frzV M v).2 Z' ∧ RV β (M.upds (frzV M v).2) Z' w.heap (frzV M v).1 x := by
  unfold frzV
  split
  · rename_i cs
    obtain ⟨vs, rfl, hl, hc⟩ := hv.agg_inv
    obtain ⟨Z', f, r⟩ := frzL_ok hm (RL.of_arr hl hc)
    obtain ⟨e1, e2⟩ := RL.to_arr r
    exact ⟨Z', f, .agg _ _ e1 e2⟩
  · exact frz1_ok hm hv

theorem frzA_ok : ∀ {cs : List V} {M : Mem} {Z : Nat → Prop} {xs : List Value}, RMem β M Z w.heap → RL β M Z w.heap cs xs → ∃ Z', FrzOK β M Z w (frzA M cs).2 Z' ∧ RL β (M.upds (frzA M cs).2) Z' w.heap (frzA M cs).1 xs
  | [], M, Z, xs, hm, hr => ⟨Z, FrzOK.none hm, hr⟩
  | v :: r, M, Z, xs, hm, hr => by
    obtain ⟨u, us, rfl, h1, h2⟩ := hr.cons_inv
    obtain ⟨Z1, f1, r1⟩ := frzV_ok hm h1
    obtain ⟨Z2, f2, r2⟩ := frzA_ok f1.mem (h2.mono f1.ev.toEv.toGrow)
    refine ⟨Z2, f1.trans f2, ?_⟩
    simp only [frzA]
    rw [upds_append]
    exact RL.cons (r1.mono f2.ev.toEv.toGrow) r2
end

/-! ### Slots -/
/-- a slot of a frame: whether it is a struct or an array, whether live slices in it are frozen first, what stands in it -/
structure Sl where
  tmp : Nat
  ag : Bool
  fr : Bool
  tr : Tr

/-- plain slots -/
@[reducible] def Sl.val (t : Nat) (τ : Ty) : Sl := ⟨t, false, false, .dat τ⟩
@[reducible] def Sl.agg (t : Nat) (τ : Ty) : Sl := ⟨t, true, false, .dat τ⟩
@[reducible] def Sl.row (t : Nat) (τ : Ty) : Sl := ⟨t, false, false, .row τ⟩
@[reducible] def Sl.box (t : Nat) (q : Tr) : Sl := ⟨t, false, false, .box q⟩
@[reducible] def Sl.fval (t : Nat) (τ : Ty) : Sl := ⟨t, false, true, .dat τ⟩
@[reducible] def Sl.fagg (t : Nat) (τ : Ty) : Sl := ⟨t, true, true, .dat τ⟩

abbrev TSh := List Sl
@[reducible] def TSh.den : TSh → Type
  | [] => Unit
  | s :: r => s.tr.den × TSh.den r

def TSh.wid : TSh → Nat
  | [] => 0
  | s :: r => s.tr.wid + TSh.wid r

/-- the frame with what is to be frozen frozen -/
def TSh.frz : TSh → (Nat → V) → Mem → (Nat → V) × Mem
  | [], ρ, M => (ρ, M)
  | s :: r, ρ, M => bif s.fr then (match frzV M (ρ s.tmp) with
    | (v, u) => TSh.frz r (setT ρ s.tmp v) (M.upds u)) else TSh.frz r ρ M

def Sl.cells (ρ : Nat → V) (s : Sl) : Option (List V) :=
  bif s.ag then (match ρ s.tmp with
    | .agg cs => some cs
    | _ => none) else some [ρ s.tmp]

def TSh.grab0 (ρ : Nat → V) (M : Mem) : (sh : TSh) → Option (sh.den × List (Option Nat))
  | [] => some ((), [])
  | s :: r => match s.cells ρ with
    | none => none
    | some cs => match s.tr.grab M cs with
      | some (x, q, o1) => match q with
        | [] => (match TSh.grab0 ρ M r with
          | some (y, o2) => some ((x, y), o1 ++ o2)
          | none => none)
        | _ => none
      | none => none

def hasO (b : Nat) : List (Option Nat) → Bool
  | [] => false
  | none :: r => hasO b r
  | some x :: r => Nat.beq b x || hasO b r
def nodupO : List (Option Nat) → Bool
  | [] => true
  | none :: r => nodupO r
  | some b :: r => !hasO b r && nodupO r

def TSh.grab (ρ : Nat → V) (M : Mem) (sh : TSh) : Option sh.den :=
  match TSh.frz sh ρ M with
  | (ρ, M) => match TSh.grab0 ρ M sh with
    | some (x, obs) => bif nodupO obs then some x else none
    | none => none

def TSh.putT : (sh : TSh) → Nat → sh.den → (Nat → V)
  | [], _, _ => fun _ => .dead
  | s :: r, k, x => setT (TSh.putT r (k + s.tr.wid) x.2) s.tmp (mkv s.ag (s.tr.cells k x.1))
def TSh.putM : (sh : TSh) → Nat → sh.den → Mem
  | [], _, _ => fun _ => .none
  | s :: r, k, x => fun n => bif Nat.blt n (k + s.tr.wid) then s.tr.mem k x.1 n else TSh.putM r (k + s.tr.wid) x.2 n

section
variable {β β' : Nat → Option Loc} {M M' : Mem} {Z : Nat → Prop} {h : Heap}

theorem TSh.putM_lt : ∀ (sh : TSh) (k : Nat) (x : sh.den) (n : Nat), n < k → TSh.putM sh k x n = .none
  | [], _, _, _, _ => rfl
  | s :: r, k, x, n, hn => by
    simp only [TSh.putM, blt_iff.2 (show n < k + s.tr.wid by omega), cond_true]
    exact s.tr.mem_lt k x.1 n hn
theorem TSh.putM_ge : ∀ (sh : TSh) (k : Nat) (x : sh.den) (n : Nat), k + sh.wid ≤ n → TSh.putM sh k x n = .none
  | [], _, _, _, _ => rfl
  | s :: r, k, x, n, hn => by
    simp only [TSh.wid] at hn
    simp only [TSh.putM, blt_false (show k + s.tr.wid ≤ n by omega), cond_false]
    exact TSh.putM_ge r (k + s.tr.wid) x.2 n (by omega)

theorem TSh.grab0_len {ρ : Nat → V} : ∀ (sh : TSh) {x : sh.den} {obs : List (Option Nat)}, TSh.grab0 ρ M sh = some (x, obs) → obs.length = sh.wid
  | [], x, obs, hg => by simp only [TSh.grab0, Option.some.injEq, Prod.mk.injEq] at hg; rw [← hg.2]; rfl
  | s :: r, x, obs, hg => by
    simp only [TSh.grab0] at hg
    split at hg
    · cases hg
    · split at hg
      · rename_i y q o1 h1
        split at hg
        · split at hg
          · rename_i z o2 h2
            simp only [Option.some.injEq, Prod.mk.injEq] at hg
            rw [← hg.2]
            simp only [List.length_append, TSh.wid]
            rw [s.tr.grab_len h1, TSh.grab0_len r h2]
          · cases hg
        · cases hg
      · cases hg

theorem slot_ok {s : Sl} {ρ : Nat → V} {cs : List V} (hs : s.cells ρ = some cs) {u : Value} (hv : RV β M Z h (ρ s.tmp) u) : ∃ vs, RL β M Z h cs vs ∧
    ∀ {β' : Nat → Option Loc} {M' : Mem} {ds : List V}, RL β' M' Z h ds vs → RV β' M' Z h (mkv s.ag ds) u := by
  unfold Sl.cells at hs
  cases ha : s.ag with
  | true =>
    rw [ha] at hs
    simp only [cond_true] at hs
    split at hs
    · rename_i cs' hρ
      cases hs
      rw [hρ] at hv
      obtain ⟨vs, rfl, hl, hc⟩ := hv.agg_inv
      refine ⟨vs.toList, RL.of_arr hl hc, fun r => ?_⟩
      obtain ⟨e1, e2⟩ := RL.to_arr r
      exact .agg _ _ e1 e2
    · cases hs
  | false =>
    rw [ha] at hs
    simp only [cond_false, Option.some.injEq] at hs
    subst hs
    refine ⟨[u], RL.cons hv RL.nil, fun {β' M' ds} r => ?_⟩
    cases ds with
    | nil => have := r.1; simp at this
    | cons d ds =>
      obtain ⟨v, vs, e, h1, _⟩ := r.cons_inv
      cases e
      exact h1

theorem TSh.grab0_ok (hm : RMem β M Z h) {ρ : Nat → V} {tv : Nat → Value} (hρ : ∀ t, RV β M Z h (ρ t) (tv t)) : ∀ (sh : TSh) {x : sh.den} {obs : List (Option Nat)}, TSh.grab0 ρ M sh = some (x, obs) →
    ∀ (k : Nat), (∀ j, j < obs.length → β' (k + j) = locOf β (obs.getD j none)) → (∀ j, j < obs.length → M' (k + j) = TSh.putM sh k x (k + j)) →
    (∀ t, RV β' M' Z h (TSh.putT sh k x t) (tv t)) ∧ TrOK β M Z h β' M' obs k
  | [], x, obs, hg, k, _, _ => by
    simp only [TSh.grab0, Option.some.injEq, Prod.mk.injEq] at hg
    obtain ⟨_, rfl⟩ := hg
    exact ⟨fun t => .dead _, ⟨fun j hj => by simp at hj, fun j hj => by simp at hj⟩⟩
  | s :: r, x, obs, hg, k, hβ, hM => by
    simp only [TSh.grab0] at hg
    split at hg
    · cases hg
    · rename_i cs hcs
      split at hg
      · rename_i y q o1 h1
        split at hg
        · split at hg
          · rename_i z o2 h2
            simp only [Option.some.injEq, Prod.mk.injEq] at hg
            obtain ⟨rfl, rfl⟩ := hg
            have l1 := s.tr.grab_len h1
            have l2 := TSh.grab0_len r h2
            obtain ⟨vs, hr, back⟩ := slot_ok hcs (hρ s.tmp)
            obtain ⟨us, ws, rfl, a1, a2, a3⟩ := s.tr.grab_ok (β' := β') (M' := M') hm h1 hr k (fun j hj => by
              rw [hβ j (by simp; omega)]; congr 1; simp [List.getD, List.getElem?_append_left hj]) (fun j hj => by
              rw [hM j (by simp; omega)]
              simp only [TSh.putM]
              rw [blt_iff.2 (by omega)]; rfl)
            have hw0 : ws = [] := by have := a2.1; simpa using this.symm
            subst hw0
            rw [List.append_nil] at back
            obtain ⟨b1, b2⟩ := TSh.grab0_ok hm hρ r h2 (k + s.tr.wid) (fun j hj => by
              have := hβ (o1.length + j) (by simp; omega)
              rw [show k + s.tr.wid + j = k + (o1.length + j) by omega, this]
              congr 1
              simp [List.getD, List.getElem?_append_right]) (fun j hj => by
              have := hM (o1.length + j) (by simp; omega)
              rw [show k + s.tr.wid + j = k + (o1.length + j) by omega, this]
              simp only [TSh.putM]
              rw [blt_false (by omega)]; rfl)
            refine ⟨fun t => ?_, ⟨fun j hj => ?_, fun j hj cb hl => ?_⟩⟩
            · simp only [TSh.putT]
              by_cases e : t = s.tmp
              · subst e; rw [setT_same]; exact back a1
              · rw [setT_ne _ _ e]; exact b1 t
            · by_cases hlt : j < o1.length
              · exact a3.rb j hlt
              · have := b2.rb (j - o1.length) (by simp at hj; omega)
                rwa [show k + s.tr.wid + (j - o1.length) = k + j by omega] at this
            · by_cases hlt : j < o1.length
              · have := a3.from_ j hlt cb hl
                simpa [List.getD, List.getElem?_append_left hlt] using this
              · have := b2.from_ (j - o1.length) (by simp at hj; omega) cb
                rw [show k + s.tr.wid + (j - o1.length) = k + j by omega] at this
                have := this hl
                simpa [List.getD, List.getElem?_append_right (Nat.not_lt.1 hlt)] using this
          · cases hg
        · cases hg
      · cases hg

theorem hasO_iff {b : Nat} : ∀ {l : List (Option Nat)}, hasO b l = true ↔ some b ∈ l
  | [] => by simp [hasO]
  | none :: r => by simp only [hasO, List.mem_cons, reduceCtorEq, false_or]; exact hasO_iff
  | some x :: r => by
    simp only [hasO, Bool.or_eq_true, List.mem_cons, Option.some.injEq, hasO_iff]
    constructor
    · rintro (h | h)
      · exact .inl (Nat.eq_of_beq_eq_true h)
      · exact .inr h
    · rintro (h | h)
      · exact .inl (by rw [h]; exact beq_self _)
      · exact .inr h
theorem nodupO_inj : ∀ {l : List (Option Nat)}, nodupO l = true → ∀ {i j : Nat} {b : Nat}, l[i]? = some (some b) → l[j]? = some (some b) → i = j
  | [], _, i, j, b, h1, _ => by simp at h1
  | x :: r, h, i, j, b, h1, h2 => by
    have hr : nodupO r = true := by
      cases x with
      | none => exact h
      | some y => simp only [nodupO, Bool.and_eq_true] at h; exact h.2
    cases i with
    | zero =>
      cases j with
      | zero => rfl
      | succ j =>
        simp only [List.getElem?_cons_zero, Option.some.injEq] at h1
        subst h1
        simp only [List.getElem?_cons_succ] at h2
        simp only [nodupO, Bool.and_eq_true, Bool.not_eq_true'] at h
        have := hasO_iff.2 (List.mem_of_getElem? h2)
        rw [h.1] at this; cases this
    | succ i =>
      cases j with
      | zero =>
        simp only [List.getElem?_cons_zero, Option.some.injEq] at h2
        subst h2
        simp only [List.getElem?_cons_succ] at h1
        simp only [nodupO, Bool.and_eq_true, Bool.not_eq_true'] at h
        have := hasO_iff.2 (List.mem_of_getElem? h1)
        rw [h.1] at this; cases this
      | succ j =>
        simp only [List.getElem?_cons_succ] at h1 h2
        rw [nodupO_inj hr h1 h2]

theorem getD_some {l : List (Option Nat)} {j b : Nat} (h : l.getD j none = some b) : l[j]? = some (some b) := by
  cases hj : l[j]? with
  | none => rw [List.getD, hj] at h; cases h
  | some x => rw [List.getD, hj] at h; simp at h; rw [h]

theorem TSh.frz_ok {nt : Nat} {a : Act} {w : World} : ∀ (sh : TSh) {ρ : Nat → V} {M : Mem} {Z : Nat → Prop}, Rel β M Z nt ρ a w → ∃ Z', Rel β (sh.frz ρ M).2 Z' nt (sh.frz ρ M).1 a w ∧ EvW β M Z w β (sh.frz ρ M).2 Z' w
  | [], ρ, M, Z, hr => ⟨Z, hr, EvW.refl _ _ _ _⟩
  | s :: r, ρ, M, Z, hr => by
    simp only [TSh.frz]
    cases s.fr with
    | false => exact TSh.frz_ok r hr
    | true =>
      simp only [cond_true]
      obtain ⟨Z1, f, hv⟩ := frzV_ok hr.mem (hr.tmps s.tmp)
      have hr1 : Rel β (M.upds (frzV M (ρ s.tmp)).2) Z1 nt (setT ρ s.tmp (frzV M (ρ s.tmp)).1) a w := by
        refine ⟨fun t => ?_, hr.size, f.mem⟩
        by_cases e : t = s.tmp
        · subst e; rw [setT_same]; exact hv
        · rw [setT_ne _ _ e]; exact (hr.tmps t).mono f.ev.toEv.toGrow
      obtain ⟨Z2, h1, h2⟩ := TSh.frz_ok r hr1
      exact ⟨Z2, h1, f.ev.trans h2⟩

/-- grabbed and put down -/
theorem TSh.ok {nt : Nat} {ρ : Nat → V} {a : Act} {w : World} (hr : Rel β M Z nt ρ a w) {sh : TSh} {x : sh.den} (hg : TSh.grab ρ M sh = some x) (k : Nat) :
    ∃ β' Z' M1, EvW β M Z w β M1 Z' w ∧ Rel β' (TSh.putM sh k x) Z' nt (TSh.putT sh k x) a w ∧ ∀ cb, owned β' (TSh.putM sh k x) cb → owned β M1 cb := by
  unfold TSh.grab at hg
  obtain ⟨Z1, hr1, hev⟩ := TSh.frz_ok sh hr
  generalize hfz : TSh.frz sh ρ M = fz at hg hr1 hev
  obtain ⟨ρ1, M1⟩ := fz
  simp only at hg hr1 hev
  cases h0 : TSh.grab0 ρ1 M1 sh with
  | none => rw [h0] at hg; cases hg
  | some p =>
    obtain ⟨y, obs⟩ := p
    rw [h0] at hg
    simp only at hg
    cases hn : nodupO obs with
    | false => rw [hn] at hg; cases hg
    | true =>
      rw [hn] at hg
      simp only [cond_true, Option.some.injEq] at hg
      subst hg
      have hl := TSh.grab0_len sh h0
      let β' : Nat → Option Loc := fun n => if k ≤ n ∧ n - k < obs.length then locOf β (obs.getD (n - k) none) else none
      have hβ' : ∀ j, j < obs.length → β' (k + j) = locOf β (obs.getD j none) := fun j hj => by
        simp only [β']
        rw [if_pos ⟨by omega, by omega⟩]
        congr 2; omega
      obtain ⟨a1, a2⟩ := TSh.grab0_ok (β' := β') (M' := TSh.putM sh k y) hr1.mem hr1.tmps sh h0 k hβ' fun _ _ => rfl
      have inr : ∀ n, (TSh.putM sh k y n).gen ≠ none → ∃ j, j < obs.length ∧ n = k + j := fun n hne => by
        by_cases h1 : n < k
        · rw [TSh.putM_lt sh k y n h1] at hne; exact absurd rfl hne
        · by_cases h2 : k + sh.wid ≤ n
          · rw [TSh.putM_ge sh k y n h2] at hne; exact absurd rfl hne
          · exact ⟨n - k, by omega, by omega⟩
      have lie : ∀ n cb, lies β' (TSh.putM sh k y) n cb → ∃ j b, j < obs.length ∧ n = k + j ∧ obs[j]? = some (some b) ∧ (M1 b).own = true ∧ lies β M1 b cb := fun n cb hl' => by
        obtain ⟨j, hj, rfl⟩ := inr n hl'.1
        obtain ⟨b, q1, q2, q3⟩ := a2.from_ j hj cb hl'
        exact ⟨j, b, hj, rfl, getD_some q1, q2, q3⟩
      refine ⟨β', Z1, M1, hev, ⟨a1, hr1.size, ⟨fun n => ?_, fun b b' cb ho h1 h2 => ?_, fun cb hz ho => ?_, hr1.mem.zlt⟩⟩, fun cb ho => ?_⟩
      · by_cases h1 : n < k
        · unfold RB; rw [TSh.putM_lt sh k y n h1]; trivial
        · by_cases h2 : k + sh.wid ≤ n
          · unfold RB; rw [TSh.putM_ge sh k y n h2]; trivial
          · have := a2.rb (n - k) (by omega)
            rwa [show k + (n - k) = n by omega] at this
      · obtain ⟨j, c, _, rfl, q1, q2, q3⟩ := lie b cb h1
        obtain ⟨j', c', _, rfl, q1', q2', q3'⟩ := lie b' cb h2
        have := hr1.mem.sep c c' cb q2 q3 q3'
        subst this
        rw [nodupO_inj hn q1 q1']
      · obtain ⟨b, h1, h2⟩ := ho
        obtain ⟨j, c, _, rfl, q1, q2, q3⟩ := lie b cb h2
        exact hr1.mem.zown cb hz ⟨c, q2, q3⟩
      · obtain ⟨b, h1, h2⟩ := ho
        obtain ⟨j, c, _, rfl, q1, q2, q3⟩ := lie b cb h2
        exact ⟨c, q2, q3⟩
end
end Go.Pv
