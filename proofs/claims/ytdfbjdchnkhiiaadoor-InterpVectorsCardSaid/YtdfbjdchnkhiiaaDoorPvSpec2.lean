/-
  What a caller is told of a function that is known by itself: it is right.
-/
import Derived.Test.YtdfbjdchnkhiiaaDoorPvSpec
namespace Go.Pv

section
variable {P : Program} {β β' : Nat → Option Loc} {M M' : Mem} {Z Z' : Nat → Prop} {h h' : Heap}

/-- the frozen zone with the lent rows -/
def lentZ (β : Nat → Option Loc) (M : Mem) (Z : Nat → Prop) (fp : List Nat) : Nat → Prop := fun cb => Z cb ∨ ∃ b ∈ fp, lies β M b cb

theorem RD.more {Z Z' : Nat → Prop} (hz : ∀ cb, Z cb → Z' cb) {τ : Ty} {x : τ.den} {cs : List Value} (r : RD h Z τ x cs) : RD h Z' τ x cs := r.mono (fun _ _ => rfl) hz

theorem cut_get {α : Type} {l : List α} {i : Nat} {m : Option Nat} {k : Nat} {x : α} (h : (Go.Pv.cut l i m)[k]? = some x) : l[i + k]? = some x := by
  unfold Go.Pv.cut at h
  cases m with
  | none => simpa using h
  | some m =>
    simp only [List.getElem?_take] at h
    split at h
    · simpa using h
    · cases h

theorem lend_ok (hm : RMem β M Z h) {τ : Ty} {v : V} {u : Value} {x : τ.den} {fp : List Nat} (hl : lend M τ v = some (x, fp)) (hv : RV β M Z h v u) {Z1 : Nat → Prop}
    (hz : ∀ cb, Z cb → Z1 cb) (hfp : ∀ b ∈ fp, ∀ cb, lies β M b cb → Z1 cb) : RD h Z1 τ x [u] := by
  unfold lend at hl
  split at hl
  · rename_i e _
    split at hl
    · rename_i b i m g
      split at hl
      · rename_i τ' l g' ro hb
        split at hl
        · rename_i he
          subst he
          cases hq : Nat.beq g g' with
          | false => rw [hq] at hl; cases hl
          | true =>
            rw [hq] at hl
            have hg := Nat.eq_of_beq_eq_true hq
            subst hg
            simp only [cond_true, Option.some.injEq, Prod.mk.injEq] at hl
            obtain ⟨rfl, rfl⟩ := hl
            have hgen : (M b).gen = some g := by rw [hb]; rfl
            have hs := hv.sl_inv hgen
            have hrb := hm.blk b
            unfold RB at hrb
            rw [hb] at hrb hs
            simp only at hrb
            simp only [RD]
            rcases hs with ⟨e0, rfl, e1, rfl⟩ | ⟨cb, base, sz, top, off, len, cap, f1, rfl, f3, f4, f5, f6, f7⟩
            · rcases hrb with ⟨rfl, _⟩ | ⟨_, _, _, _, _, g1, _⟩
              · left
                refine ⟨rfl, ?_⟩
                rcases e1 with rfl | rfl <;> simp [Go.Pv.cut]
              · rw [e0] at g1; cases g1
            · rcases hrb with ⟨_, g1⟩ | ⟨cb', base', Te, c', fz', g1, g2, g3, g4, g5, g6⟩
              · rw [g1] at f1; cases f1
              · rw [g1] at f1
                simp only [Option.some.injEq, Loc.at.injEq] at f1
                obtain ⟨rfl, rfl, rfl, rfl⟩ := f1
                have hlen : (Go.Pv.cut l i m).length = len := by
                  cases m with
                  | none => simp only [Go.Pv.cut, List.length_drop]; simp only [Blk.cnt] at f7; omega
                  | some m => simp only [Go.Pv.cut, List.length_take, List.length_drop]; simp only [Blk.cnt] at f7; omega
                right
                refine ⟨cb', off, cap, c', Te, fz', by rw [hlen], by rw [hlen]; exact f5, hfp b (by simp) cb' ⟨by rw [hgen]; simp, by rw [g1]; rfl⟩, g2, ?_, fun k x hx => ?_⟩
                · rw [hlen]
                  by_cases hc : 0 < cap
                  · have := f3 hc
                    have h2 : (i + cap) * τ'.size = i * τ'.size + cap * τ'.size := Nat.add_mul _ _ _
                    have h3 : len * τ'.size ≤ cap * τ'.size := Nat.mul_le_mul_right _ f5
                    omega
                  · have : len = 0 := by omega
                    rw [this]; omega
                · have hk : k < len := by rw [← hlen]; exact (List.getElem?_eq_some_iff.1 hx).1
                  have hoff := f3 (by omega)
                  have := g5 (i + k) x (cut_get hx)
                  have e : base' + (i + k) * τ'.size = off + k * τ'.size := by rw [hoff, Nat.add_mul]; omega
                  rw [e] at this
                  exact this.more hz
        · cases hl
      · cases hl
    · cases hl
  · cases hl

theorem argG_ok (hm : RMem β M Z h) {s : VS} {v : V} {u : Value} {x : s.den} {fp : List Nat} (ha : argG M s v = some (x, fp)) (hv : RV β M Z h v u) {Z1 : Nat → Prop}
    (hz : ∀ cb, Z cb → Z1 cb) (hfp : ∀ b ∈ fp, ∀ cb, lies β M b cb → Z1 cb) (β0 : Nat → Option Loc) (M0 : Mem) : RV β0 M0 Z1 h (s.v 0 x) u := by
  cases s with
  | val τ =>
    have key : RD h Z1 τ x [u] := by
      simp only [argG] at ha
      cases hd : decAll τ [v] with
      | some y => rw [hd] at ha; cases ha; exact (decAll_ok hd (RL.cons hv RL.nil)).more hz
      | none => rw [hd] at ha; exact lend_ok hm ha hv hz hfp
    have h2 := RL.of_RD (β := β0) (M2 := M0) key
    simp only [VS.v]
    cases he : enc τ x with
    | nil => exact .dead _
    | cons c r => rw [he] at h2; obtain ⟨w, ws, e1, e2, _⟩ := h2.cons_inv; cases e1; exact e2
  | agg τ =>
    simp only [argG] at ha
    split at ha
    · rename_i cs
      cases hd : decAll τ cs with
      | none => rw [hd] at ha; cases ha
      | some y =>
        rw [hd] at ha; cases ha
        obtain ⟨vs, rfl, hl, hc⟩ := hv.agg_inv
        have h1 := decAll_ok hd (RL.of_arr hl hc)
        obtain ⟨e1, e2⟩ := RL.to_arr (RL.of_RD (β := β0) (M2 := M0) (h1.more hz))
        exact .agg _ _ e1 e2
    · cases ha
  | row τ => cases ha
  | box τ => cases ha

theorem argsG_ok (hm : RMem β M Z h) {Z1 : Nat → Prop} (hz : ∀ cb, Z cb → Z1 cb) (β0 : Nat → Option Loc) (M0 : Mem) : ∀ {sa : Sig} {args : List V} {us : List Value} {x : sa.den} {fp : List Nat},
    argsG M sa args = some (x, fp) → RL β M Z h args us → (∀ b ∈ fp, ∀ cb, lies β M b cb → Z1 cb) → RL β0 M0 Z1 h (argsV sa x) us
  | [], [], us, x, fp, ha, hr, _ => by
    have : us = [] := by have := hr.1; simpa using this.symm
    subst this; exact RL.nil
  | s :: r, v :: vs, us, x, fp, ha, hr, hfp => by
    obtain ⟨u, us', rfl, h1, h2⟩ := hr.cons_inv
    simp only [argsG] at ha
    cases h3 : argG M s v with
    | none => rw [h3] at ha; cases ha
    | some p =>
      obtain ⟨y, fp1⟩ := p
      rw [h3] at ha
      simp only at ha
      cases h4 : argsG M r vs with
      | none => rw [h4] at ha; cases ha
      | some q =>
        obtain ⟨z, fp2⟩ := q
        rw [h4] at ha
        cases ha
        exact RL.cons (argG_ok hm h3 h1 hz (fun b hb => hfp b (List.mem_append_left _ hb)) β0 M0) (argsG_ok hm hz β0 M0 h4 h2 fun b hb => hfp b (List.mem_append_right _ hb))
  | [], _ :: _, _, _, _, ha, _, _ => by cases ha
  | _ :: _, [], _, _, _, ha, _, _ => by cases ha

theorem argG_congr {M2 : Mem} {s : VS} {v : V} {x : s.den} {fp : List Nat} (ha : argG M s v = some (x, fp)) (hM : ∀ b ∈ fp, M2 b = M b) : argG M2 s v = some (x, fp) := by
  cases s with
  | val τ =>
    simp only [argG] at ha ⊢
    cases hd : decAll τ [v] with
    | some y => rw [hd] at ha; exact ha
    | none =>
      rw [hd] at ha
      simp only at ha ⊢
      unfold lend at ha ⊢
      split at ha
      · split at ha
        · rename_i b i m g
          split at ha
          · rename_i τ' l g' ro hb
            split at ha
            · rename_i he
              subst he
              cases hq : Nat.beq g g' with
              | false => rw [hq] at ha; cases ha
              | true =>
                rw [hq] at ha
                have ha' := ha
                simp only [cond_true, Option.some.injEq, Prod.mk.injEq] at ha'
                have hbb : M2 b = M b := hM b (by rw [← ha'.2]; simp)
                simp only [hbb, hb, hq, cond_true]
                simpa using ha
            · cases ha
          · cases ha
        · cases ha
      · cases ha
  | agg τ => exact ha
  | row τ => cases ha
  | box τ => cases ha

theorem argsG_congr {M2 : Mem} : ∀ {sa : Sig} {args : List V} {x : sa.den} {fp : List Nat}, argsG M sa args = some (x, fp) → (∀ b ∈ fp, M2 b = M b) → argsG M2 sa args = some (x, fp)
  | [], [], x, fp, ha, _ => ha
  | s :: r, v :: vs, x, fp, ha, hM => by
    simp only [argsG] at ha ⊢
    cases h3 : argG M s v with
    | none => rw [h3] at ha; cases ha
    | some p =>
      obtain ⟨y, fp1⟩ := p
      rw [h3] at ha
      simp only at ha
      cases h4 : argsG M r vs with
      | none => rw [h4] at ha; cases ha
      | some q =>
        obtain ⟨z, fp2⟩ := q
        rw [h4] at ha
        cases ha
        rw [argG_congr h3 fun b hb => hM b (List.mem_append_left _ hb)]
        simp only
        rw [argsG_congr h4 fun b hb => hM b (List.mem_append_right _ hb)]
  | [], _ :: _, _, _, ha, _ => by cases ha
  | _ :: _, [], _, _, ha, _ => by cases ha


def FnOK (P : Program) (f : FuncId) (sa sr : Sig) (F : sa.den → Option (Shape.den (resShape 0 sr))) : Prop :=
  ∀ x y, F x = some y → Callable P f ∧ ∀ (k : Nat) (β : Nat → Option Loc) (Z : Nat → Prop) (w : World) (cargs : List Value), ZOk Z w.heap →
      RL β (fun _ => .none) Z w.heap (argsV sa x) cargs →
      Calls P f cargs.toArray w fun e w' => ∃ us β' Z', e = .returned (retVal us) ∧ (∃ fn, P.funcs[f]? = some fn ∧ us.length = fn.results.size) ∧
        (∀ t, RV β' (Shape.putM (resShape 0 sr) k y) Z' w'.heap (Shape.putT (resShape 0 sr) k y t) (us.getD t undef)) ∧
        RMem β' (Shape.putM (resShape 0 sr) k y) Z' w'.heap ∧ Since w Z β' (Shape.putM (resShape 0 sr) k y) Z' w'

theorem resV_length : ∀ (i : Nat) (sr : Sig) (k : Nat) (y : Shape.den (resShape i sr)), (resV i sr k y).length = sr.length
  | _, [], _, _ => rfl
  | i, s :: r, k, y => by simp only [resV, List.length_cons]; exact congrArg (· + 1) (resV_length (i + 1) r (k + 1) y.2)

theorem resV_put : ∀ (i : Nat) (sr : Sig) (k : Nat) (y : Shape.den (resShape i sr)) (t : Nat) (x : V), (resV i sr k y)[t]? = some x → Shape.putT (resShape i sr) k y (i + t) = x
  | _, [], _, _, t, x, h => by simp [resV] at h
  | i, s :: r, k, y, t, x, h => by
    simp only [resV] at h
    show setT (Shape.putT (resShape (i + 1) r) (k + 1) y.2) i (s.v k y.1) (i + t) = x
    cases t with
    | zero => simp only [List.getElem?_cons_zero, Option.some.injEq] at h; subst h; exact setT_same _ _ _
    | succ t =>
      simp only [List.getElem?_cons_succ] at h
      refine (setT_ne (Shape.putT (resShape (i + 1) r) (k + 1) y.2) (s.v k y.1) (show i + (t + 1) ≠ i by omega)).trans ?_
      have := resV_put (i + 1) r (k + 1) y.2 t x h
      exact (congrArg _ (show i + (t + 1) = i + 1 + t by omega)).trans this

theorem resV_slot : ∀ (i : Nat) (sr : Sig) (k : Nat) (y : Shape.den (resShape i sr)) (t : Nat) (x : V), (resV i sr k y)[t]? = some x → ∃ s ∈ sr, ∃ z : s.den, x = s.v (k + t) z
  | _, [], _, _, t, x, h => by simp [resV] at h
  | i, s :: r, k, y, t, x, h => by
    simp only [resV] at h
    cases t with
    | zero => simp only [List.getElem?_cons_zero, Option.some.injEq] at h; exact ⟨s, by simp, y.1, by rw [← h]; rfl⟩
    | succ t =>
      simp only [List.getElem?_cons_succ] at h
      obtain ⟨s', h1, z, h2⟩ := resV_slot (i + 1) r (k + 1) y.2 t x h
      exact ⟨s', by simp [h1], z, by rw [h2, show k + 1 + t = k + (t + 1) from by omega]⟩

theorem resV_refs : ∀ (i : Nat) (sr : Sig) (k : Nat) (y : Shape.den (resShape i sr)), ∀ b ∈ refsL (resV i sr k y), b ∈ Shape.ids (resShape i sr) k
  | _, [], _, _, b, h => by simp [resV, refsL] at h
  | i, s :: r, k, y, b, h => by
    simp only [resV, refsL, List.mem_append] at h
    show b ∈ s.ids k ++ Shape.ids (resShape (i + 1) r) (k + 1)
    rw [List.mem_append]
    rcases h with h | h
    · left
      cases s with
      | val τ =>
        exfalso
        simp only [VS.v] at h
        cases he : enc τ y.1 with
        | nil => rw [he] at h; simp [V.refs] at h
        | cons c t =>
          rw [he] at h
          have := enc_refs (τ := τ) (x := y.1)
          rw [he] at this
          simp only [refsL, List.append_eq_nil_iff] at this
          simp only [List.headD_cons] at h
          rw [this.1] at h; cases h
      | agg τ => exfalso; simp only [VS.v, V.refs] at h; rw [enc_refs] at h; cases h
      | row τ => simpa [VS.v, V.refs, VS.ids] using h
      | box τ => simpa [VS.v, V.refs, VS.ids] using h
    · right; exact resV_refs (i + 1) r (k + 1) y.2 b h

theorem resShape_flat : ∀ (i : Nat) (sr : Sig), (∀ s ∈ sr, s.flat = true) → ∀ s ∈ resShape i sr, s.2.flat = true
  | _, [], _, s, hs => by cases hs
  | i, s0 :: r, h, s, hs => by
    rcases List.mem_cons.1 hs with e | e
    · subst e; exact h s0 (by simp)
    · exact resShape_flat (i + 1) r (fun s hs => h s (by simp [hs])) s e

theorem specE_ok {R : Type} {f : FuncId} {sa sr : Sig} {F : sa.den → Option (Shape.den (resShape 0 sr))} (hfn : FnOK P f sa sr F) (hflat : ∀ s ∈ sr, s.flat = true)
    (hcount : ∀ fn, P.funcs[f]? = some fn → fn.results.size = sr.length) :
    ∀ args M id (c : Eff → Option R) r, specE sa sr F args M id c = some r → ∃ eff, CallOK P f args M eff ∧ c eff = some r := by
  intro args M id c r h
  unfold specE at h
  cases ha : argsG M sa args with
  | none => rw [ha] at h; cases h
  | some p =>
    obtain ⟨x, fps⟩ := p
    rw [ha] at h
    simp only at h
    cases hF : F x with
    | none => rw [hF] at h; cases h
    | some y =>
      rw [hF] at h
      simp only [forceN_eq, forceNs_eq] at h
      generalize (id + 1) * 100000 = k at h
      cases hi : (Shape.ids (resShape 0 sr) k).all fun b => (M b).isNone with
      | false => rw [hi] at h; cases h
      | true =>
        rw [hi] at h
        simp only [cond_true] at h
        obtain ⟨hcallable, hcalls⟩ := hfn x y hF
        have hfl := resShape_flat 0 sr hflat
        refine ⟨_, ⟨by intro b hb; simp at hb ⊢; exact .inl hb, hcallable, fun M2 hM β Z w cargs hmem hargs => ?_⟩, h⟩
        simp only [List.mem_append] at hM
        have ha2 := argsG_congr ha fun b hb => hM b (.inr hb)
        have hfree : ∀ b ∈ Shape.ids (resShape 0 sr) k, M2 b = .none := fun b hb => by
          rw [hM b (.inl hb)]; exact isNone_iff (List.all_eq_true.1 hi b hb)
        have hzlt : ZOk (lentZ β M2 Z fps) w.heap := hmem.zlt.mono (fun _ _ => rfl) (fun _ h => .inl h) fun cb hz => by
          rcases hz with hz | ⟨b, _, hl⟩
          · exact hmem.zlt.lt cb hz
          · exact lies_lt (hmem.blk b) hl
        have hargs' := argsG_ok hmem (Z1 := lentZ β M2 Z fps) (fun cb hz => .inl hz) β (fun _ => .none) ha2 hargs fun b hb cb hl => .inr ⟨b, hb, hl⟩
        refine (hcalls k β _ w cargs hzlt hargs').mono fun e w' ⟨us, β', Z', h1, ⟨fn, h2, h3⟩, h4, h5, h6⟩ => ?_
        obtain ⟨s1, s2, s3, s4, s5, s6⟩ := h6
        -- the frozen zone as before
        have slot := putM_slot (resShape 0 sr) k y hfl
        have hmem' : RMem β' (Shape.putM (resShape 0 sr) k y) Z w'.heap := by
          refine ⟨fun b => ?_, h5.sep, fun cb hz ho => h5.zown cb (s1 cb (.inl hz)) ho, hmem.zlt.mono (fun cb hz => s4 cb (hmem.zlt.lt cb hz)) (fun _ h => h) fun cb hz => Nat.lt_of_lt_of_le (hmem.zlt.lt cb hz) s3⟩
          refine RB.flat ?_ (h5.blk b)
          rcases slot b with ⟨e, _⟩ | ⟨_, e | e⟩
          · exact .inl e
          · exact .inr (.inl e)
          · exact .inr (.inr e)
        have hev : Ev β (M2.only []) Z w.heap β' (Shape.putM (resShape 0 sr) k y) Z w'.heap := by
          have hn : ∀ b, M2.only [] b = .none := fun b => only_out (by simp)
          refine { zkeep := fun cb hz => s4 cb (hmem.zlt.lt cb hz), zmono := fun _ h => h, nn := fun b hb => absurd (hn b) hb, gone := fun b hb _ => absurd (hn b) hb, gens := fun b g hg => (by rw [hn b] at hg; cases hg), size := s3, frame := fun cb hlt _ => s4 cb hlt, own := fun cb ho => .inl (s5 cb ho), znew := fun _ h => .inl h }
        have hnoref : ∀ b, (Shape.putM (resShape 0 sr) k y b).refs = [] := fun b => by
          rcases slot b with ⟨e, _⟩ | ⟨_, ⟨τ, l, _, e⟩ | ⟨τ, x, _, e⟩⟩ <;> rw [e]
          · rfl
          · rfl
          · exact enc_refs
        obtain ⟨l1, l2, l3⟩ := leave hmem hmem' hev (ids := Shape.ids (resShape 0 sr) k) (fun b _ x hx => by rw [hnoref b] at hx; cases hx) (fun b hb => by cases hb) (fun b hb => .inr (hfree b hb))
        refine ⟨_, joinB β β' (Shape.ids (resShape 0 sr) k), Z, h1, ?_, ?_, ?_⟩ <;> rw [upds_join]
        · have hrl : RL (joinB β β' (Shape.ids (resShape 0 sr) k)) (M2.join (Shape.putM (resShape 0 sr) k y) (Shape.ids (resShape 0 sr) k)) Z w'.heap (resV 0 sr k y) us := by
            refine ⟨by rw [resV_length, h3, hcount fn h2], fun t v u hv hu => ?_⟩
            have e := resV_put 0 sr k y t v hv
            have := h4 t
            rw [Nat.zero_add] at e
            rw [e] at this
            have hu' : us.getD t undef = u := by simp [hu]
            rw [hu'] at this
            obtain ⟨s, hs, z, hz⟩ := resV_slot 0 sr k y t v hv
            subst hz
            refine l3 _ _ (VS.v_flat (hflat s hs) this) fun b hb => resV_refs 0 sr k y b ?_
            obtain ⟨hlt, hge⟩ := List.getElem?_eq_some_iff.1 hv
            exact refsL_mem hlt (by rw [hge]; exact hb)
          exact retV_ok hrl
        · exact l1
        · exact ⟨l2, s6⟩


/-- the same where the function is known to be total on a domain -/
def specD {R : Type} (sa sr : Sig) (D : sa.den → Bool) (F : sa.den → Shape.den (resShape 0 sr)) : List V → Mem → Nat → (Eff → Option R) → Option R := fun args M id c =>
  match argsG M sa args with
  | none => none
  | some (x, fps) => bif D x then forceN ((id + 1) * 100000) fun k => forceNs (Shape.ids (resShape 0 sr) k) fun ids =>
      bif ids.all (fun b => (M b).isNone) then c { val := retV (resV 0 sr k (F x)), upd := ids.map fun b => (b, Shape.putM (resShape 0 sr) k (F x) b), fp := ids ++ fps } else none
    else none

theorem specD_ok {R : Type} {f : FuncId} {sa sr : Sig} {D : sa.den → Bool} {F : sa.den → Shape.den (resShape 0 sr)} (hfn : FnOK P f sa sr fun x => bif D x then some (F x) else none) (hflat : ∀ s ∈ sr, s.flat = true)
    (hcount : ∀ fn, P.funcs[f]? = some fn → fn.results.size = sr.length) :
    ∀ args M id (c : Eff → Option R) r, specD sa sr D F args M id c = some r → ∃ eff, CallOK P f args M eff ∧ c eff = some r := by
  intro args M id c r h
  refine specE_ok hfn hflat hcount args M id c r ?_
  unfold specD at h
  unfold specE
  cases ha : argsG M sa args with
  | none => rw [ha] at h; cases h
  | some p =>
    obtain ⟨x, fps⟩ := p
    rw [ha] at h
    simp only at h ⊢
    cases hD : D x with
    | false => rw [hD] at h; cases h
    | true => rw [hD] at h; exact h

end
end Go.Pv
