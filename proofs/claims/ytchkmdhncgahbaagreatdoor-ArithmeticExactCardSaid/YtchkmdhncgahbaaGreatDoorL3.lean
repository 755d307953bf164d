/-
  The ground of the proof, part 3: What a caller is told of a function that is known by itself: it is right. From a function's run by itself to what a law's statement asks of the call: it returns true, the world has at most new blocks. What a row asks behind a call that leaves all that was there as it was. What the statement's reading says of an argument of flat data. What the statement's reading says of an argument that is a slice of flat data. The package's table of sine coefficients: where the row lays it, the block holds the seven numbers. The table of the seat's types, printed by a program of this session's own (gen_tt.py), and that it is what the program's types come to. The program's calls, first part: the table of operations, that the program is alive, types of data. Decode, of the program and of the reference: what they compute, kind by kind. Numbers that fit a word of the machine. Decode: the program's and the reference's answer alike, whatever the words and the index. Decode: what is known of the two functions, for all words and indices. Shapes with structure: a slot of a frame may hold boxes and live rows within; grabbed as typed data, and put down again with all else forgotten. Loops over structured states; splitting cases; functions by themselves, with structured results. What a caller is told of a function with structured results: it is right. What is known of layer 18 in this seat: Decode on words at hand, Form. Lists of numbers as sets: insertion in order, what two lists have in common, keys of a map. Natural numbers as limbs of 32 bits, on plain data. Natural numbers as limbs: comparison, products, shifts, single digits.
-/
import Derived.Test.YtchkmdhncgahbaaGreatDoorL2
import Derived.RowKit3
import Derived.WideKeyArgs
import Derived.ChangeSame
import Derived.OpenShut
import Derived.Test.YtchkmdhncgahbaaGreatDoorRows
import Derived.ChangeShapes
import Derived.ChangeVars
import Derived.RowKit
import Derived.Test.YtchkmdhncgahbaaGreatDoorProg
import Derived.KernelRfl
/-! ### What a caller is told of a function that is known by itself: it is right. -/
namespace Go.Pv

section
variable {P : Program} {β β' : Nat → Option Loc} {M M' : Mem} {Z Z' : Nat → Prop} {h h' : Heap}

/-- the frozen zone with the lent rows -/
def lentZ (β : Nat → Option Loc) (M : Mem) (Z : Nat → Prop) (fp : List Nat) : Nat → Prop := fun cb => Z cb ∨ ∃ b ∈ fp, lies β M b cb

theorem argG_ok (hm : RMem β M Z h) {s : VS} {v : V} {u : Value} {x : s.den} {fp : List Nat} (ha : argG M s v = some (x, fp)) (hv : RV β M Z h v u) {Z1 : Nat → Prop}
    (hz : ∀ cb, Z cb → Z1 cb) (hfp : ∀ b ∈ fp, ∀ cb, lies β M b cb → Z1 cb) (β0 : Nat → Option Loc) (M0 : Mem) : RV β0 M0 Z1 h (s.v 0 x) u := by
  cases s with
  | val τ =>
    have key : RD h Z1 τ x [u] := by
      simp only [argG] at ha
      cases hd : decAll τ [v] with
      | some y => rw [hd] at ha; cases ha; exact (decAll_ok hd (RL.cons hv RL.nil)).more hz
      | none => rw [hd] at ha; exact lend_ok hm ha hv hz hfp
    have h2 := RL.of_RD (β := β0) (M2 := M0) key
    simp only [VS.v]
    cases he : enc τ x with
    | nil => exact .dead _
    | cons c r => rw [he] at h2; obtain ⟨w, ws, e1, e2, _⟩ := h2.cons_inv; cases e1; exact e2
  | agg τ =>
    simp only [argG] at ha
    split at ha
    · rename_i cs
      cases hd : decAll τ cs with
      | none => rw [hd] at ha; cases ha
      | some y =>
        rw [hd] at ha; cases ha
        obtain ⟨vs, rfl, hl, hc⟩ := hv.agg_inv
        have h1 := decAll_ok hd (RL.of_arr hl hc)
        obtain ⟨e1, e2⟩ := RL.to_arr (RL.of_RD (β := β0) (M2 := M0) (h1.more hz))
        exact .agg _ _ e1 e2
    · cases ha
  | row τ => cases ha
  | box τ => cases ha

theorem argsG_ok (hm : RMem β M Z h) {Z1 : Nat → Prop} (hz : ∀ cb, Z cb → Z1 cb) (β0 : Nat → Option Loc) (M0 : Mem) : ∀ {sa : Sig} {args : List V} {us : List Value} {x : sa.den} {fp : List Nat},
    argsG M sa args = some (x, fp) → RL β M Z h args us → (∀ b ∈ fp, ∀ cb, lies β M b cb → Z1 cb) → RL β0 M0 Z1 h (argsV sa x) us
  | [], [], us, x, fp, ha, hr, _ => by
    have : us = [] := by have := hr.1; simpa using this.symm
    subst this; exact RL.nil
  | s :: r, v :: vs, us, x, fp, ha, hr, hfp => by
    obtain ⟨u, us', rfl, h1, h2⟩ := hr.cons_inv
    simp only [argsG] at ha
    cases h3 : argG M s v with
    | none => rw [h3] at ha; cases ha
    | some p =>
      obtain ⟨y, fp1⟩ := p
      rw [h3] at ha
      simp only at ha
      cases h4 : argsG M r vs with
      | none => rw [h4] at ha; cases ha
      | some q =>
        obtain ⟨z, fp2⟩ := q
        rw [h4] at ha
        cases ha
        exact RL.cons (argG_ok hm h3 h1 hz (fun b hb => hfp b (List.mem_append_left _ hb)) β0 M0) (argsG_ok hm hz β0 M0 h4 h2 fun b hb => hfp b (List.mem_append_right _ hb))
  | [], _ :: _, _, _, _, ha, _, _ => by cases ha
  | _ :: _, [], _, _, _, ha, _, _ => by cases ha

theorem argG_congr {M2 : Mem} {s : VS} {v : V} {x : s.den} {fp : List Nat} (ha : argG M s v = some (x, fp)) (hM : ∀ b ∈ fp, M2 b = M b) : argG M2 s v = some (x, fp) := by
  cases s with
  | val τ =>
    simp only [argG] at ha ⊢
    cases hd : decAll τ [v] with
    | some y => rw [hd] at ha; exact ha
    | none =>
      rw [hd] at ha
      simp only at ha ⊢
      unfold lend at ha ⊢
      split at ha
      · split at ha
        · rename_i b i m g
          split at ha
          · rename_i τ' l g' ro hb
            split at ha
            · rename_i he
              subst he
              cases hq : Nat.beq g g' with
              | false => rw [hq] at ha; cases ha
              | true =>
                rw [hq] at ha
                have ha' := ha
                simp only [cond_true, Option.some.injEq, Prod.mk.injEq] at ha'
                have hbb : M2 b = M b := hM b (by rw [← ha'.2]; simp)
                simp only [hbb, hb, hq, cond_true]
                simpa using ha
            · cases ha
          · cases ha
        · cases ha
      · cases ha
  | agg τ => exact ha
  | row τ => cases ha
  | box τ => cases ha

theorem argsG_congr {M2 : Mem} : ∀ {sa : Sig} {args : List V} {x : sa.den} {fp : List Nat}, argsG M sa args = some (x, fp) → (∀ b ∈ fp, M2 b = M b) → argsG M2 sa args = some (x, fp)
  | [], [], x, fp, ha, _ => ha
  | s :: r, v :: vs, x, fp, ha, hM => by
    simp only [argsG] at ha ⊢
    cases h3 : argG M s v with
    | none => rw [h3] at ha; cases ha
    | some p =>
      obtain ⟨y, fp1⟩ := p
      rw [h3] at ha
      simp only at ha
      cases h4 : argsG M r vs with
      | none => rw [h4] at ha; cases ha
      | some q =>
        obtain ⟨z, fp2⟩ := q
        rw [h4] at ha
        cases ha
        rw [argG_congr h3 fun b hb => hM b (List.mem_append_left _ hb)]
        simp only
        rw [argsG_congr h4 fun b hb => hM b (List.mem_append_right _ hb)]
  | [], _ :: _, _, _, ha, _ => by cases ha
  | _ :: _, [], _, _, ha, _ => by cases ha


def FnOK (P : Program) (f : FuncId) (sa sr : Sig) (F : sa.den → Option (Shape.den (resShape 0 sr))) : Prop :=
  ∀ x y, F x = some y → Callable P f ∧ ∀ (k : Nat) (β : Nat → Option Loc) (Z : Nat → Prop) (w : World) (cargs : List Value), ZOk Z w.heap →
      RL β (fun _ => .none) Z w.heap (argsV sa x) cargs →
      Calls P f cargs.toArray w fun e w' => ∃ us β' Z', e = .returned (retVal us) ∧ (∃ fn, P.funcs[f]? = some fn ∧ us.length = fn.results.size) ∧
        (∀ t, RV β' (Shape.putM (resShape 0 sr) k y) Z' w'.heap (Shape.putT (resShape 0 sr) k y t) (us.getD t undef)) ∧
        RMem β' (Shape.putM (resShape 0 sr) k y) Z' w'.heap ∧ Since w Z β' (Shape.putM (resShape 0 sr) k y) Z' w'

theorem resV_length : ∀ (i : Nat) (sr : Sig) (k : Nat) (y : Shape.den (resShape i sr)), (resV i sr k y).length = sr.length
  | _, [], _, _ => rfl
  | i, s :: r, k, y => by simp only [resV, List.length_cons]; exact congrArg (· + 1) (resV_length (i + 1) r (k + 1) y.2)

theorem resV_put : ∀ (i : Nat) (sr : Sig) (k : Nat) (y : Shape.den (resShape i sr)) (t : Nat) (x : V), (resV i sr k y)[t]? = some x → Shape.putT (resShape i sr) k y (i + t) = x
  | _, [], _, _, t, x, h => by simp [resV] at h
  | i, s :: r, k, y, t, x, h => by
    simp only [resV] at h
    show setT (Shape.putT (resShape (i + 1) r) (k + 1) y.2) i (s.v k y.1) (i + t) = x
    cases t with
    | zero => simp only [List.getElem?_cons_zero, Option.some.injEq] at h; subst h; exact setT_same _ _ _
    | succ t =>
      simp only [List.getElem?_cons_succ] at h
      refine (setT_ne (Shape.putT (resShape (i + 1) r) (k + 1) y.2) (s.v k y.1) (show i + (t + 1) ≠ i by omega)).trans ?_
      have := resV_put (i + 1) r (k + 1) y.2 t x h
      exact (congrArg _ (show i + (t + 1) = i + 1 + t by omega)).trans this

theorem resV_slot : ∀ (i : Nat) (sr : Sig) (k : Nat) (y : Shape.den (resShape i sr)) (t : Nat) (x : V), (resV i sr k y)[t]? = some x → ∃ s ∈ sr, ∃ z : s.den, x = s.v (k + t) z
  | _, [], _, _, t, x, h => by simp [resV] at h
  | i, s :: r, k, y, t, x, h => by
    simp only [resV] at h
    cases t with
    | zero => simp only [List.getElem?_cons_zero, Option.some.injEq] at h; exact ⟨s, by simp, y.1, by rw [← h]; rfl⟩
    | succ t =>
      simp only [List.getElem?_cons_succ] at h
      obtain ⟨s', h1, z, h2⟩ := resV_slot (i + 1) r (k + 1) y.2 t x h
      exact ⟨s', by simp [h1], z, by rw [h2, show k + 1 + t = k + (t + 1) from by omega]⟩

theorem resV_refs : ∀ (i : Nat) (sr : Sig) (k : Nat) (y : Shape.den (resShape i sr)), ∀ b ∈ refsL (resV i sr k y), b ∈ Shape.ids (resShape i sr) k
  | _, [], _, _, b, h => by simp [resV, refsL] at h
  | i, s :: r, k, y, b, h => by
    simp only [resV, refsL, List.mem_append] at h
    show b ∈ s.ids k ++ Shape.ids (resShape (i + 1) r) (k + 1)
    rw [List.mem_append]
    rcases h with h | h
    · left
      cases s with
      | val τ =>
        exfalso
        simp only [VS.v] at h
        cases he : enc τ y.1 with
        | nil => rw [he] at h; simp [V.refs] at h
        | cons c t =>
          rw [he] at h
          have := enc_refs (τ := τ) (x := y.1)
          rw [he] at this
          simp only [refsL, List.append_eq_nil_iff] at this
          simp only [List.headD_cons] at h
          rw [this.1] at h; cases h
      | agg τ => exfalso; simp only [VS.v, V.refs] at h; rw [enc_refs] at h; cases h
      | row τ => simpa [VS.v, V.refs, VS.ids] using h
      | box τ => simpa [VS.v, V.refs, VS.ids] using h
    · right; exact resV_refs (i + 1) r (k + 1) y.2 b h

theorem resShape_flat : ∀ (i : Nat) (sr : Sig), (∀ s ∈ sr, s.flat = true) → ∀ s ∈ resShape i sr, s.2.flat = true
  | _, [], _, s, hs => by cases hs
  | i, s0 :: r, h, s, hs => by
    rcases List.mem_cons.1 hs with e | e
    · subst e; exact h s0 (by simp)
    · exact resShape_flat (i + 1) r (fun s hs => h s (by simp [hs])) s e

theorem specE_ok {R : Type} {f : FuncId} {sa sr : Sig} {F : sa.den → Option (Shape.den (resShape 0 sr))} (hfn : FnOK P f sa sr F) (hflat : ∀ s ∈ sr, s.flat = true)
    (hcount : ∀ fn, P.funcs[f]? = some fn → fn.results.size = sr.length) :
    ∀ args M id (c : Eff → Option R) r, specE sa sr F args M id c = some r → ∃ eff, CallOK P f args M eff ∧ c eff = some r := by
  intro args M id c r h
  unfold specE at h
  cases ha : argsG M sa args with
  | none => rw [ha] at h; cases h
  | some p =>
    obtain ⟨x, fps⟩ := p
    rw [ha] at h
    simp only at h
    cases hF : F x with
    | none => rw [hF] at h; cases h
    | some y =>
      rw [hF] at h
      simp only [forceN_eq, forceNs_eq] at h
      generalize (id + 1) * 100000 = k at h
      cases hi : (Shape.ids (resShape 0 sr) k).all fun b => (M b).isNone with
      | false => rw [hi] at h; cases h
      | true =>
        rw [hi] at h
        simp only [cond_true] at h
        obtain ⟨hcallable, hcalls⟩ := hfn x y hF
        have hfl := resShape_flat 0 sr hflat
        refine ⟨_, ⟨by intro b hb; simp at hb ⊢; exact .inl hb, hcallable, fun M2 hM β Z w cargs hmem hargs => ?_⟩, h⟩
        simp only [List.mem_append] at hM
        have ha2 := argsG_congr ha fun b hb => hM b (.inr hb)
        have hfree : ∀ b ∈ Shape.ids (resShape 0 sr) k, M2 b = .none := fun b hb => by
          rw [hM b (.inl hb)]; exact isNone_iff (List.all_eq_true.1 hi b hb)
        have hzlt : ZOk (lentZ β M2 Z fps) w.heap := hmem.zlt.mono (fun _ _ => rfl) (fun _ h => .inl h) fun cb hz => by
          rcases hz with hz | ⟨b, _, hl⟩
          · exact hmem.zlt.lt cb hz
          · exact lies_lt (hmem.blk b) hl
        have hargs' := argsG_ok hmem (Z1 := lentZ β M2 Z fps) (fun cb hz => .inl hz) β (fun _ => .none) ha2 hargs fun b hb cb hl => .inr ⟨b, hb, hl⟩
        refine (hcalls k β _ w cargs hzlt hargs').mono fun e w' ⟨us, β', Z', h1, ⟨fn, h2, h3⟩, h4, h5, h6⟩ => ?_
        obtain ⟨s1, s2, s3, s4, s5, s6⟩ := h6
        -- the frozen zone as before
        have slot := putM_slot (resShape 0 sr) k y hfl
        have hmem' : RMem β' (Shape.putM (resShape 0 sr) k y) Z w'.heap := by
          refine ⟨fun b => ?_, h5.sep, fun cb hz ho => h5.zown cb (s1 cb (.inl hz)) ho, hmem.zlt.mono (fun cb hz => s4 cb (hmem.zlt.lt cb hz)) (fun _ h => h) fun cb hz => Nat.lt_of_lt_of_le (hmem.zlt.lt cb hz) s3⟩
          refine RB.flat ?_ (h5.blk b)
          rcases slot b with ⟨e, _⟩ | ⟨_, e | e⟩
          · exact .inl e
          · exact .inr (.inl e)
          · exact .inr (.inr e)
        have hev : Ev β (M2.only []) Z w.heap β' (Shape.putM (resShape 0 sr) k y) Z w'.heap := by
          have hn : ∀ b, M2.only [] b = .none := fun b => only_out (by simp)
          refine { zkeep := fun cb hz => s4 cb (hmem.zlt.lt cb hz), zmono := fun _ h => h, nn := fun b hb => absurd (hn b) hb, gone := fun b hb _ => absurd (hn b) hb, gens := fun b g hg => (by rw [hn b] at hg; cases hg), size := s3, frame := fun cb hlt _ => s4 cb hlt, own := fun cb ho => .inl (s5 cb ho), znew := fun _ h => .inl h }
        have hnoref : ∀ b, (Shape.putM (resShape 0 sr) k y b).refs = [] := fun b => by
          rcases slot b with ⟨e, _⟩ | ⟨_, ⟨τ, l, _, e⟩ | ⟨τ, x, _, e⟩⟩ <;> rw [e]
          · rfl
          · rfl
          · exact enc_refs
        obtain ⟨l1, l2, l3⟩ := leave hmem hmem' hev (ids := Shape.ids (resShape 0 sr) k) (fun b _ x hx => by rw [hnoref b] at hx; cases hx) (fun b hb => by cases hb) (fun b hb => .inr (hfree b hb))
        refine ⟨_, joinB β β' (Shape.ids (resShape 0 sr) k), Z, h1, ?_, ?_, ?_⟩ <;> rw [upds_join]
        · have hrl : RL (joinB β β' (Shape.ids (resShape 0 sr) k)) (M2.join (Shape.putM (resShape 0 sr) k y) (Shape.ids (resShape 0 sr) k)) Z w'.heap (resV 0 sr k y) us := by
            refine ⟨by rw [resV_length, h3, hcount fn h2], fun t v u hv hu => ?_⟩
            have e := resV_put 0 sr k y t v hv
            have := h4 t
            rw [Nat.zero_add] at e
            rw [e] at this
            have hu' : us.getD t undef = u := by simp [hu]
            rw [hu'] at this
            obtain ⟨s, hs, z, hz⟩ := resV_slot 0 sr k y t v hv
            subst hz
            refine l3 _ _ (VS.v_flat (hflat s hs) this) fun b hb => resV_refs 0 sr k y b ?_
            obtain ⟨hlt, hge⟩ := List.getElem?_eq_some_iff.1 hv
            exact refsL_mem hlt (by rw [hge]; exact hb)
          exact retV_ok hrl
        · exact l1
        · exact ⟨l2, s6⟩


/-- the same where the function is known to be total on a domain -/
def specD {R : Type} (sa sr : Sig) (D : sa.den → Bool) (F : sa.den → Shape.den (resShape 0 sr)) : List V → Mem → Nat → (Eff → Option R) → Option R := fun args M id c =>
  match argsG M sa args with
  | none => none
  | some (x, fps) => bif D x then forceN ((id + 1) * 100000) fun k => forceNs (Shape.ids (resShape 0 sr) k) fun ids =>
      bif ids.all (fun b => (M b).isNone) then c { val := retV (resV 0 sr k (F x)), upd := ids.map fun b => (b, Shape.putM (resShape 0 sr) k (F x) b), fp := ids ++ fps } else none
    else none

theorem specD_ok {R : Type} {f : FuncId} {sa sr : Sig} {D : sa.den → Bool} {F : sa.den → Shape.den (resShape 0 sr)} (hfn : FnOK P f sa sr fun x => bif D x then some (F x) else none) (hflat : ∀ s ∈ sr, s.flat = true)
    (hcount : ∀ fn, P.funcs[f]? = some fn → fn.results.size = sr.length) :
    ∀ args M id (c : Eff → Option R) r, specD sa sr D F args M id c = some r → ∃ eff, CallOK P f args M eff ∧ c eff = some r := by
  intro args M id c r h
  refine specE_ok hfn hflat hcount args M id c r ?_
  unfold specD at h
  unfold specE
  cases ha : argsG M sa args with
  | none => rw [ha] at h; cases h
  | some p =>
    obtain ⟨x, fps⟩ := p
    rw [ha] at h
    simp only at h ⊢
    cases hD : D x with
    | false => rw [hD] at h; cases h
    | true => rw [hD] at h; exact h

end
end Go.Pv
/-! ### From a function's run by itself to what a law's statement asks of the call: it returns true, the world has at most new blocks. -/
namespace Go.Pv
open Go.RowKit

section
variable {P : Program} {T : TypeId → TT}

/-- nothing that was there has turned; there may be new blocks -/
def Grown1 (w w' : World) : Prop := w.keptBut w' (fun _ => False) ∧ w.heap.size ≤ w'.heap.size
theorem Grown1.frame {w w' : World} (h : Grown1 w w') (may : MemPlace → Prop) : w.keptBut w' may := World.keptBut_mono (fun _ hp => hp.elim) h.1

theorem Since.grown {w w' : World} {Z0 : Nat → Prop} {β : Nat → Option Loc} {M : Mem} {Z : Nat → Prop} (h : Since w Z0 β M Z w') : Grown1 w w' := by
  obtain ⟨h1, h2, h3, h4, h5, h6⟩ := h
  refine ⟨⟨h6.1, h6.2, fun i hi => ?_⟩, h3⟩
  rw [h4 i hi]
  cases w.heap[i]? with
  | none => rfl
  | some o => cases o with
    | cells c t fr => exact ⟨rfl, rfl, rfl, fun _ _ => rfl⟩
    | map es clock => exact .inr ⟨rfl, rfl⟩
    | _ => rfl

/-- the function returns true -/
theorem calls_true (hT : TOK P T) (hm : P.follows .mixedOrders = true) (hname : ∀ (f : FuncId) fn, P.funcs[f]? = some fn → (fn.name == "runtime.NumGoroutine") = false)
    {callE : (R : Type) → CallE R} (hcall : ∀ R, CallsOK P (callE R)) {lss : List LoopSpec} {f : FuncId} {sa : Sig} {x : sa.den}
    (h : evalF P T callE lss f sa [.val .bool] x = some (true, ())) (hcount : ∀ fn, P.funcs[f]? = some fn → fn.results.size = 1)
    {β : Nat → Option Loc} {Z : Nat → Prop} {w : World} {cargs : List Value} (hz : ZOk Z w.heap) (hargs : RL β (fun _ => .none) Z w.heap (argsV sa x) cargs) :
    Calls P f cargs.toArray w fun e w' => e = .returned (.bool true) ∧ Grown1 w w' ∧ ∀ i, i < w.heap.size → w'.heap[i]? = w.heap[i]? := by
  obtain ⟨_, h2⟩ := evalF_ok hT hm hname hcall h
  refine (h2 0 β Z w cargs hz hargs).mono fun e w' ⟨us, β', Z', h3, ⟨fn, h4, h5⟩, h6, _, h7⟩ => ⟨?_, h7.grown, h7.2.2.2.1⟩
  rw [hcount fn h4] at h5
  obtain ⟨u, rfl⟩ : ∃ u, us = [u] := by
    cases us with
    | nil => simp at h5
    | cons u r => cases r with
      | nil => exact ⟨u, rfl⟩
      | cons _ _ => simp at h5
  have h8 := h6 0
  have h8' : RV β' (Shape.putM (resShape 0 [.val .bool]) 0 (true, ())) Z' w'.heap (.bool true) ([u].getD 0 undef) := h8
  have h9 := h8'.bool_inv
  simp at h9
  rw [h3, h9]
  rfl

/-- the arguments read as they did -/
theorem trodAll_stays {H : Type} {enc : TypeId × Value → H} (hl : laidOutB P = true) {W W' : World} (hheap : ∀ i, i < W.heap.size → W'.heap[i]? = W.heap[i]?) {sp' : Nat → Bool} :
    ∀ {ts : List TypeId} {vs : List Value} {ds : List (DataW H)} {ps : List MemPlace}, (∀ t ∈ ts, P.readableRec t = true ∧ t < P.types.size) → DataW.TrodAll enc P W 0 (fun _ => true) true ts vs ds ps →
      (∀ p ∈ ps, p.block < W.heap.size) → (∀ p ∈ ps, sp' p.block = true) → DataW.TrodAll enc P W' 0 sp' true ts vs ds ps
  | [], [], [], ps, _, h, _, _ => h
  | t :: ts, v :: vs, d :: ds, ps, hr, h, hlt, hs => by
    obtain ⟨p, q, h1, h2, rfl⟩ := h
    refine ⟨p, q, WideElems.Trod_stays hl (hr t (by simp)).1 (hr t (by simp)).2 h1 (fun x hx => ?_) fun x hx => hs x (List.mem_append_left _ hx),
      trodAll_stays hl hheap (fun t ht => hr t (by simp [ht])) h2 (fun x hx => hlt x (List.mem_append_right _ hx)) fun x hx => hs x (List.mem_append_right _ hx), rfl⟩
    have hb := hlt x (List.mem_append_left _ hx)
    cases x with
    | cell b o => exact World.cell?_of_block (w := W) (hheap b hb)
    | map b => exact hheap b hb
  | [], _ :: _, _, _, _, h, _, _ => by cases h
  | [], [], _ :: _, _, _, h, _, _ => by cases h
  | _ :: _, [], _, _, _, h, _, _ => by cases h
  | _ :: _, _ :: _, [], _, _, h, _, _ => by cases h

end
end Go.Pv
/-! ### What a row asks behind a call that leaves all that was there as it was. -/
namespace Go.Pv
open Go.RowKit Go.ChangeShapes Go.WideShapes
variable {H : Type} {enc : TypeId × Value → H} {P : Program}
theorem post_same0 {f : Func} {s : ChangeSpec} {apart fresh handsOn : Bool} {W W' : World} {args : Array Value} {v : Value} {ds gs : List (DataW H)} {before pa pv : List MemPlace}
    (hW : DataW.Whole enc P f.params.toList s.vars apart W args.toList ds gs before)
    (hres : ∀ (b : Nat) (sp : Nat → Bool) (hd : Bool), DataW.TrodAll enc P W' b sp hd f.resultTypes.toList (v.resultList f.resultTypes.size) (s.fn H (ds ++ gs)).results [])
    (hargs : ∀ sp : Nat → Bool, (∀ p ∈ before, sp p.block = true) → DataW.TrodAll enc P W' 0 sp true f.params.toList args.toList (s.fn H (ds ++ gs)).args pa)
    (hvars : ∀ sp : Nat → Bool, (∀ p ∈ before, sp p.block = true) → DataW.TrodVars enc P W' sp s.vars (s.fn H (ds ++ gs)).vars pv)
    (hps : before = pa ++ pv) (hk : W.keptBut W' (· ∈ before)) : s.post enc P f apart fresh handsOn false W args v W' := by
  have hold : ∀ p ∈ before, (fun b => decide (b < W.heap.size)) p.block = true := fun p hp => by simpa using hW.lt p hp
  refine ⟨ds, gs, before, [], pa, pv, hW, hres _ _ _, hargs _ hold, hvars _ hold, World.keptBut_mono (fun p hp => ⟨hp, ?_⟩) hk, fun h => by cases h⟩
  rw [hps, List.mem_append] at hp
  exact Or.inr hp
end Go.Pv
/-! ### What the statement's reading says of an argument of flat data. -/
namespace Go.Pv
open Go.ChangeShapes

/-- a type's data, its layout looked at -/
def fieldsL (f : TypeId → Option Ty) (P : Program) : List Field → Nat → Option (List Ty)
  | [], _ => some []
  | x :: r, off => match f x.type with
    | some τ => bif Nat.beq x.offset off && Nat.beq (P.cellsOf x.type) τ.size then (match fieldsL f P r (off + τ.size) with
      | some τs => some (τ :: τs)
      | none => none) else none
    | none => none

def tyL (P : Program) : Nat → TypeId → Option Ty
  | 0, _ => none
  | n + 1, t => match P.underlying t with
    | some .bool => some .bool
    | some (.int k) => some (.int k)
    | some .string => some .str
    | some (.array len e) => match tyL P n e with
      | some τ => bif Nat.beq (P.cellsOf e) τ.size && Nat.beq (P.cellsOf t) (Ty.arr len τ).size then some (Ty.arr len τ) else none
      | none => none
    | some (.struct fs) => match fieldsL (tyL P n) P fs.toList 0 with
      | some τs => bif Nat.beq (P.cellsOf t) (Ty.tup τs).size then some (Ty.tup τs) else none
      | none => none
    | _ => none

/-- the numbers fit their kinds -/
def TyOk : (τ : Ty) → τ.den → Prop
  | .int k, n => (Lit.int k n).wf = true
  | .pair a b, x => TyOk a x.1 ∧ TyOk b x.2
  | .slice e, l => (∀ x ∈ l, TyOk e x) ∧ l.length ≤ 9223372036854775807
  | _, _ => True

section
variable {H : Type} {enc : TypeId × Value → H} {P : Program} {w : World} {base : Nat} {spare : Nat → Bool} {held : Bool} {h : Heap} {Z : Nat → Prop}

theorem pair_RD {a b : Ty} {x : a.den} {y : b.den} {cs : List Value} {off : Nat} (h1 : RD h Z a x ((cs.drop off).take a.size)) (h2 : RD h Z b y ((cs.drop (off + a.size)).take b.size)) :
    RD h Z (.pair a b) (x, y) ((cs.drop off).take (a.size + b.size)) := by
  refine ⟨?_, ?_⟩
  · rw [List.take_take, Nat.min_eq_left (by omega)]; exact h1
  · rw [List.drop_take, List.drop_drop]
    have : a.size + b.size - a.size = b.size := by omega
    rw [this]; exact h2

theorem fields_RD {f : TypeId → Option Ty} {g : TypeId → List Value → Option (DataW H × List MemPlace)} {cs : List Value}
    (ih : ∀ t τ cs d, f t = some τ → g t cs = some d → ∃ x : τ.den, RD h Z τ x cs ∧ TyOk τ x) :
    ∀ (fs : List Field) (τs : List Ty) (off : Nat) (xs : List (DataW H × List MemPlace)), fieldsL f P fs off = some τs → (fs.mapM fun x => g x.type ((cs.drop x.offset).take (P.cellsOf x.type))) = some xs →
      ∃ x : (Ty.tup τs).den, RD h Z (Ty.tup τs) x ((cs.drop off).take (Ty.tup τs).size) ∧ TyOk (Ty.tup τs) x
  | [], τs, off, xs, hf, _ => by
    simp only [fieldsL, Option.some.injEq] at hf; subst hf
    exact ⟨(), by simp [Ty.tup, RD, Ty.size], trivial⟩
  | x :: r, τs, off, xs, hf, hm => by
    simp only [fieldsL] at hf
    cases h1 : f x.type with
    | none => rw [h1] at hf; cases hf
    | some τ =>
      rw [h1] at hf
      simp only at hf
      cases hq : Nat.beq x.offset off && Nat.beq (P.cellsOf x.type) τ.size with
      | false => rw [hq] at hf; cases hf
      | true =>
        rw [hq] at hf
        simp only [cond_true] at hf
        simp only [Bool.and_eq_true] at hq
        have q1 := Nat.eq_of_beq_eq_true hq.1
        have q2 := Nat.eq_of_beq_eq_true hq.2
        cases h2 : fieldsL f P r (off + τ.size) with
        | none => rw [h2] at hf; cases hf
        | some τr =>
          rw [h2] at hf
          simp only [Option.some.injEq] at hf
          subst hf
          rw [List.mapM_cons] at hm
          cases h3 : g x.type ((cs.drop x.offset).take (P.cellsOf x.type)) with
          | none => rw [h3] at hm; cases hm
          | some d =>
            rw [h3] at hm
            cases h4 : (r.mapM fun x => g x.type ((cs.drop x.offset).take (P.cellsOf x.type))) with
            | none => simp [h4] at hm
            | some ds =>
              obtain ⟨y, e1, e2⟩ := ih x.type τ _ d h1 h3
              rw [q1, q2] at e1
              obtain ⟨z, e3, e4⟩ := fields_RD ih r τr (off + τ.size) ds h2 h4
              cases τr with
              | nil => exact ⟨y, e1, e2⟩
              | cons a b => exact ⟨(y, z), pair_RD e1 e3, e2, e4⟩

theorem array_RD {τ : Ty} {g : List Value → Option (DataW H × List MemPlace)} {cs : List Value} {sz : Nat} (hsz : sz = τ.size)
    (ih : ∀ cs d, g cs = some d → ∃ x : τ.den, RD h Z τ x cs ∧ TyOk τ x) :
    ∀ (n s : Nat) (xs : List (DataW H × List MemPlace)), ((List.range' s n).mapM fun i => g ((cs.drop (i * sz)).take sz)) = some xs →
      ∃ x : (Ty.arr n τ).den, RD h Z (Ty.arr n τ) x ((cs.drop (s * sz)).take (Ty.arr n τ).size) ∧ TyOk (Ty.arr n τ) x
  | 0, s, xs, _ => ⟨(), by simp [Ty.arr, Ty.tup, RD, Ty.size], trivial⟩
  | n + 1, s, xs, hm => by
    rw [List.range'_succ, List.mapM_cons] at hm
    cases h3 : g ((cs.drop (s * sz)).take sz) with
    | none => rw [h3] at hm; cases hm
    | some d =>
      rw [h3] at hm
      cases h4 : ((List.range' (s + 1) n).mapM fun i => g ((cs.drop (i * sz)).take sz)) with
      | none => simp [h4] at hm
      | some ds =>
        obtain ⟨y, e1, e2⟩ := ih _ d h3
        obtain ⟨z, e3, e4⟩ := array_RD hsz ih n (s + 1) ds h4
        subst hsz
        cases n with
        | zero => exact ⟨y, e1, e2⟩
        | succ n =>
          refine ⟨(y, z), ?_, e2, e4⟩
          have : (s + 1) * τ.size = s * τ.size + τ.size := by rw [Nat.add_mul, Nat.one_mul]
          rw [this] at e3
          exact pair_RD e1 e3

/-- flat data read -/
theorem trod_RD : ∀ (n fuel : Nat) (t : TypeId) (τ : Ty) (cs : List Value) (d : DataW H × List MemPlace), tyL P n t = some τ → DataW.trod enc P w base spare held fuel t cs = some d →
    ∃ x : τ.den, RD h Z τ x cs ∧ TyOk τ x
  | 0, _, _, _, _, _, ht, _ => by cases ht
  | n + 1, 0, _, _, _, _, _, hd => by simp [DataW.trod] at hd
  | n + 1, fuel + 1, t, τ, cs, d, ht, hd => by
    simp only [tyL] at ht
    cases hu : P.underlying t with
    | none => rw [hu] at ht; cases ht
    | some u =>
      rw [hu] at ht
      cases u with
      | bool =>
        cases ht
        obtain ⟨b, rfl, _⟩ := DataW.trod_bool hu hd
        exact ⟨b, rfl, trivial⟩
      | int k =>
        cases ht
        obtain ⟨m, rfl, _, hw⟩ := DataW.trod_int hu hd
        exact ⟨m, rfl, hw⟩
      | string =>
        cases ht
        obtain ⟨s, rfl, _⟩ := DataW.trod_string hu hd
        exact ⟨s, rfl, trivial⟩
      | array len e =>
        simp only at ht
        cases h1 : tyL P n e with
        | none => rw [h1] at ht; cases ht
        | some σ =>
          rw [h1] at ht
          simp only at ht
          cases hq : Nat.beq (P.cellsOf e) σ.size && Nat.beq (P.cellsOf t) (Ty.arr len σ).size with
          | false => rw [hq] at ht; cases ht
          | true =>
            rw [hq] at ht
            cases ht
            simp only [Bool.and_eq_true] at hq
            have q1 := Nat.eq_of_beq_eq_true hq.1
            have q2 := Nat.eq_of_beq_eq_true hq.2
            simp only [DataW.trod, hu] at hd
            split at hd
            · rename_i hl
              cases hx : ((List.range len).mapM fun i => DataW.trod enc P w base spare held fuel e ((cs.drop (i * P.cellsOf e)).take (P.cellsOf e))) with
              | none => rw [hx] at hd; cases hd
              | some xs =>
                rw [List.range_eq_range'] at hx
                obtain ⟨x, e1, e2⟩ := array_RD (g := fun cs => DataW.trod enc P w base spare held fuel e cs) q1 (fun cs d hg => trod_RD n fuel e σ cs d h1 hg) len 0 xs hx
                refine ⟨x, ?_, e2⟩
                rw [Nat.zero_mul, List.drop_zero, List.take_of_length_le (by omega)] at e1
                exact e1
            · cases hd
      | struct fs =>
        simp only at ht
        cases h1 : fieldsL (tyL P n) P fs.toList 0 with
        | none => rw [h1] at ht; cases ht
        | some τs =>
          rw [h1] at ht
          simp only at ht
          cases hq : Nat.beq (P.cellsOf t) (Ty.tup τs).size with
          | false => rw [hq] at ht; cases ht
          | true =>
            rw [hq] at ht
            cases ht
            have q2 := Nat.eq_of_beq_eq_true hq
            simp only [DataW.trod, hu] at hd
            split at hd
            · rename_i hl
              cases hx : (fs.toList.mapM fun f => DataW.trod enc P w base spare held fuel f.type ((cs.drop f.offset).take (P.cellsOf f.type))) with
              | none => rw [hx] at hd; cases hd
              | some xs =>
                obtain ⟨x, e1, e2⟩ := fields_RD (P := P) (g := fun t cs => DataW.trod enc P w base spare held fuel t cs) (fun t τ cs d h hg => trod_RD n fuel t τ cs d h hg) fs.toList τs 0 xs h1 hx
                refine ⟨x, ?_, e2⟩
                rw [List.drop_zero, List.take_of_length_le (by omega)] at e1
                exact e1
            · cases hd
      | _ => simp at ht

end
end Go.Pv
/-! ### What the statement's reading says of an argument that is a slice of flat data. -/
namespace Go.Pv
open Go.ChangeShapes

section
variable {H : Type} {enc : TypeId × Value → H} {P : Program} {w : World} {base : Nat} {spare : Nat → Bool} {held : Bool}

theorem rowAt_le {fits : TypeId → Bool} {d : Nat} {e : TypeId} {count off n : Nat} (h : rowAt P fits d e count off n = true) : off ≤ count * P.cellsOf e := by
  cases d with
  | zero => simp [rowAt] at h
  | succ d =>
    unfold rowAt at h
    simp only at h
    split at h
    · cases h
    · rename_i hs
      have hdm := Nat.div_add_mod off (P.cellsOf e)
      have hml := Nat.mod_lt off (Nat.pos_of_ne_zero hs)
      simp only [Bool.or_eq_true, Bool.and_eq_true, beq_iff_eq, decide_eq_true_eq] at h
      have key : off / P.cellsOf e ≤ count → off % P.cellsOf e = 0 ∨ off / P.cellsOf e < count → off ≤ count * P.cellsOf e := by
        intro h1 h2
        rcases h2 with h2 | h2
        · have : P.cellsOf e * (off / P.cellsOf e) ≤ P.cellsOf e * count := Nat.mul_le_mul_left _ h1
          rw [Nat.mul_comm count]; omega
        · have : P.cellsOf e * (off / P.cellsOf e + 1) ≤ P.cellsOf e * count := Nat.mul_le_mul_left _ h2
          rw [Nat.mul_add, Nat.mul_one] at this
          rw [Nat.mul_comm count]; omega
      rcases h with h | h
      · exact key (by omega) (.inl h.1.1)
      · exact key (by omega) (.inr h.1)

theorem liesAt_le : ∀ {d : Nat} {e : TypeId} {count off : Nat} {u : TypeId} {n : Nat}, liesAt P d e count off u n = true → off ≤ count * P.cellsOf e
  | 0, _, _, _, _, _, h => by simp [liesAt] at h
  | d + 1, e, count, off, u, n, h => by
    unfold liesAt at h
    simp only [Bool.or_eq_true] at h
    rcases h with h | h
    · exact rowAt_le h
    · split at h
      · exact liesAt_le h
      · cases h

theorem cells_take {b off n : Nat} {cs : List Value} {c : Array Value} {T : TypeId} {fz : Nat × Nat} (hc : w.heap[b]? = some (.cells c T fz)) (hl : cs.length = n) (h : ∀ i, i < n → w.cell? ⟨b, off + i, none⟩ = cs[i]?) :
    (0 < n → off + n ≤ c.size) ∧ (c.toList.drop off).take n = cs := by
  have hcell : ∀ k, w.cell? ⟨b, k, none⟩ = c[k]? := fun k => by unfold World.cell?; simp [hc]
  have hk : ∀ i, i < n → c[off + i]? = cs[i]? := fun i hi => by rw [← hcell, h i hi]
  refine ⟨fun hn => ?_, ?_⟩
  · have := hk (n - 1) (by omega)
    have h2 : (cs[n - 1]?).isSome = true := by simp; omega
    rw [← this] at h2
    simp at h2
    omega
  · apply List.ext_getElem?
    intro i
    rw [List.getElem?_take]
    split
    · rename_i hi
      rw [List.getElem?_drop, ← hk i hi]; simp
    · rename_i hi
      rw [List.getElem?_eq_none (by omega)]

theorem add_plain (b off n : Nat) : (⟨b, off, none⟩ : Addr).add n = ⟨b, off + n, none⟩ := by
  unfold Addr.add; split <;> simp_all

theorem choose_list {α : Type} {n : Nat} {p : Nat → α → Prop} (h : ∀ i, i < n → ∃ x, p i x) : ∃ l : List α, l.length = n ∧ ∀ i x, l[i]? = some x → p i x := by
  induction n with
  | zero => exact ⟨[], rfl, fun i x hx => by simp at hx⟩
  | succ n ih =>
    obtain ⟨l, h1, h2⟩ := ih fun i hi => h i (by omega)
    obtain ⟨x, hx⟩ := h n (by omega)
    refine ⟨l ++ [x], by simp [h1], fun i y hy => ?_⟩
    by_cases hi : i < l.length
    · rw [List.getElem?_append_left hi] at hy; exact h2 i y hy
    · rw [List.getElem?_append_right (by omega)] at hy
      have : i - l.length = 0 := by
        have := (List.getElem?_eq_some_iff.1 hy).1
        simp at this; omega
      rw [this] at hy
      simp at hy
      subst hy
      have : i = n := by omega
      subst this; exact hx

/-- a slice of flat data read -/
theorem slice_RD {n : Nat} {t e : TypeId} {τ : Ty} {r : Reach} {b0 : Nat} {v : Value} {d : DataW H} {ps : List MemPlace} (ht : P.underlying t = some (.slice e)) (he : tyL P n e = some τ) (hsz : P.cellsOf e = τ.size)
    (hval : Value.okWide P w r b0 t v) (hd : DataW.Trod enc P w base spare held t v d ps) :
    ∃ l : List τ.den, (∀ x ∈ l, TyOk τ x) ∧ l.length ≤ 9223372036854775807 ∧ RD w.heap (fun cb => cb < w.heap.size) (.slice τ) l [v] := by
  obtain ⟨fuel, hf⟩ := hd
  have hok : Cell.okWide P w r b0 t v := by unfold Value.okWide at hval; rw [ht] at hval; exact hval
  have hnag : ∀ cs, v ≠ .agg cs := by rintro cs rfl; simp [Cell.okWide, Cell.ok, ht] at hok
  have hcells : v.cells.toList = [v] := by
    cases v <;> first | rfl | exact absurd rfl (hnag _)
  rw [hcells] at hf
  rcases DataW.trod_slice ht hf with ⟨h1, _⟩ | ⟨a, len, cap, elems, rest, m, _, h1, _, _, h3, h4, h5, h6, _⟩
  · refine ⟨[], by simp, by simp, ?_⟩
    exact .inl ⟨⟨_, _, by rw [h1]⟩, rfl⟩
  · simp only [List.cons.injEq, and_true] at h1
    subst h1
    simp only [Cell.okWide, Cell.ok, ht] at hok
    obtain ⟨_, _, _, hsp, row, cells, hsh, hli⟩ := hok
    obtain ⟨blk, off, spot⟩ := a
    simp only at hsp hsh hli
    subst hsp
    have hblk : ∃ c T fz, w.heap[blk]? = some (.cells c T fz) ∧ c.size = cells ∧ T = row := by
      unfold World.shape? at hsh
      split at hsh
      · rename_i c T fz hb
        cases hsh; exact ⟨c, _, fz, hb, rfl, rfl⟩
      · cases hsh
    obtain ⟨c, T, fz, hc, rfl, _⟩ := hblk
    have hoff : off ≤ c.size := Nat.le_trans (liesAt_le hli) (Nat.div_mul_le_self _ _)
    have each : ∀ i, i < len → ∃ x : τ.den, TyOk τ x ∧ off + i * τ.size + τ.size ≤ c.size ∧ RD w.heap (fun cb => cb < w.heap.size) τ x ((c.toList.drop (off + i * τ.size)).take τ.size) := by
      intro i hi
      have h7 := h6 i hi
      have hel : elems[i]? = some elems[i] := List.getElem?_eq_getElem (by omega)
      rw [hel] at h7
      simp only [Option.bind_eq_some_iff] at h7
      obtain ⟨cs, h8, h9⟩ := h7
      obtain ⟨_, h10, h11⟩ := World.cells?_some h8
      rw [hsz] at h10 h11
      obtain ⟨x, h12, h13⟩ := trod_RD (h := w.heap) (Z := fun cb => cb < w.heap.size) n m e τ cs _ he h9
      have h14 := cells_take (off := off + i * τ.size) hc h10 (fun k hk => by
        have := h11 k hk
        rw [add_plain, add_plain] at this
        exact this)
      refine ⟨x, h13, ?_, by rw [h14.2]; exact h12⟩
      by_cases hz : τ.size = 0
      · rw [hz]; simpa using hoff
      · exact h14.1 (by omega)
    obtain ⟨l, hl, hx⟩ := choose_list each
    refine ⟨l, fun x hx' => ?_, ?_, ?_⟩
    · obtain ⟨i, hi⟩ := List.getElem?_of_mem hx'
      exact (hx i x hi).1
    · rw [hl]; unfold maxLen at h4; omega
    · simp only [RD]
      refine .inr ⟨blk, off, cap, c, T, fz, by rw [hl], by rw [hl]; exact h3, (Array.getElem?_eq_some_iff.1 hc).1, hc, ?_, fun i x hi => (hx i x hi).2.2⟩
      rw [hl]
      cases len with
      | zero => simpa using hoff
      | succ k =>
        obtain ⟨y, hy⟩ : ∃ y, l[k]? = some y := ⟨l[k]'(by omega), List.getElem?_eq_getElem _⟩
        have := (hx k y hy).2.1
        rw [Nat.add_mul]; omega

/-- as an abstract value -/
theorem slice_RV {n : Nat} {t e : TypeId} {τ : Ty} {r : Reach} {b0 : Nat} {v : Value} {d : DataW H} {ps : List MemPlace} (ht : P.underlying t = some (.slice e)) (he : tyL P n e = some τ) (hsz : P.cellsOf e = τ.size)
    (hval : Value.okWide P w r b0 t v) (hd : DataW.Trod enc P w base spare held t v d ps) {β : Nat → Option Loc} {M : Mem} :
    ∃ l : List τ.den, (∀ x ∈ l, TyOk τ x) ∧ l.length ≤ 9223372036854775807 ∧ RV β M (fun cb => cb < w.heap.size) w.heap (.fz τ l) v := by
  obtain ⟨l, h1, h2, h3⟩ := slice_RD ht he hsz hval hd
  exact ⟨l, h1, h2, .fz τ l v h3⟩

/-- a number -/
theorem int_RV {t : TypeId} {k : IntKind} {r : Reach} {b0 : Nat} {v : Value} {d : DataW H} {ps : List MemPlace} (ht : P.underlying t = some (.int k))
    (hval : Value.okWide P w r b0 t v) (hd : DataW.Trod enc P w base spare held t v d ps) {β : Nat → Option Loc} {M : Mem} {Z : Nat → Prop} {h : Heap} :
    ∃ m : Int, (Lit.int k m).wf = true ∧ RV β M Z h (.int k m) v := by
  obtain ⟨m, rfl, _, _, hw⟩ := open_int ht hval hd
  exact ⟨m, hw, .int k m⟩

/-- a string -/
theorem str_RV {t : TypeId} {r : Reach} {b0 : Nat} {v : Value} {d : DataW H} {ps : List MemPlace} (ht : P.underlying t = some .string)
    (hval : Value.okWide P w r b0 t v) (hd : DataW.Trod enc P w base spare held t v d ps) {β : Nat → Option Loc} {M : Mem} {Z : Nat → Prop} {h : Heap} :
    ∃ s : ByteArray, RV β M Z h (.str s) v := by
  have hok : Cell.okWide P w r b0 t v := by unfold Value.okWide at hval; rw [ht] at hval; exact hval
  cases v <;> simp [Cell.okWide, Cell.ok, ht] at hok
  rename_i s
  exact ⟨s, .str s⟩

/-- a struct of flat data -/
theorem agg_RV {n : Nat} {t : TypeId} {fs : Array Field} {τ : Ty} {r : Reach} {b0 : Nat} {v : Value} {d : DataW H} {ps : List MemPlace} (ht : P.underlying t = some (.struct fs)) (hl : tyL P n t = some τ)
    (hval : Value.okWide P w r b0 t v) (hd : DataW.Trod enc P w base spare held t v d ps) {β : Nat → Option Loc} {M : Mem} {Z : Nat → Prop} :
    ∃ x : τ.den, TyOk τ x ∧ RV β M Z w.heap (.agg (Go.Pv.enc τ x)) v := by
  obtain ⟨fuel, hf⟩ := hd
  obtain ⟨x, h1, h2⟩ := trod_RD (Z := Z) (h := w.heap) n fuel t τ _ _ hl hf
  have hag : ∃ cs, v = .agg cs := by
    unfold Value.okWide at hval
    rw [ht] at hval
    obtain ⟨cs, h, _⟩ := hval
    exact ⟨cs, h⟩
  obtain ⟨cs, rfl⟩ := hag
  refine ⟨x, h2, ?_⟩
  obtain ⟨e1, e2⟩ := RL.to_arr (vs := cs) (RL.of_RD (β := β) (M2 := M) h1)
  exact .agg _ _ e1 e2

/-- an array of flat data -/
theorem arr_RV {n len : Nat} {t e : TypeId} {τ : Ty} {r : Reach} {b0 : Nat} {v : Value} {d : DataW H} {ps : List MemPlace} (ht : P.underlying t = some (.array len e)) (hl : tyL P n t = some τ)
    (hval : Value.okWide P w r b0 t v) (hd : DataW.Trod enc P w base spare held t v d ps) {β : Nat → Option Loc} {M : Mem} {Z : Nat → Prop} :
    ∃ x : τ.den, TyOk τ x ∧ RV β M Z w.heap (.agg (Go.Pv.enc τ x)) v := by
  obtain ⟨fuel, hf⟩ := hd
  obtain ⟨x, h1, h2⟩ := trod_RD (Z := Z) (h := w.heap) n fuel t τ _ _ hl hf
  have hag : ∃ cs, v = .agg cs := by
    unfold Value.okWide at hval
    rw [ht] at hval
    obtain ⟨cs, h, _⟩ := hval
    exact ⟨cs, h⟩
  obtain ⟨cs, rfl⟩ := hag
  refine ⟨x, h2, ?_⟩
  obtain ⟨e1, e2⟩ := RL.to_arr (vs := cs) (RL.of_RD (β := β) (M2 := M) h1)
  exact .agg _ _ e1 e2

end
end Go.Pv
/-! ### The package's table of sine coefficients: where the row lays it, the block holds the seven numbers. -/
namespace Go.Pv
open Go.ChangeShapes Go.WideShapes Go.RowKit
open Go.Proofs
open Go.Proofs.YtchkmdhncgahbaaGreatDoor

theorem sinesGlob : Tryz.prog.globalNamed "perilune/fixed.sines" = some 0 := by kernel_rfl
theorem sinesType : (Tryz.prog.globals[0]?).map (·.type) = some 168 := by kernel_rfl
theorem sinesCells : Tryz.prog.cellsOf 168 = 7 := by kernel_rfl
theorem sineCell : Tryz.prog.cellsOf 2 = 1 := by kernel_rfl
def sinesArr : Array Value := #[.int .i64 8, .int .i64 (-483), .int .i64 21534, .int .i64 (-628374), .int .i64 10696163, .int .i64 (-86699834), .int .i64 210828714]
theorem int_of_trod {H : Type} {enc : TypeId × Value → H} {P : Program} {w : World} {base : Nat} {sp : Nat → Bool} {held : Bool} {fuel : Nat} {t : TypeId} {k : IntKind} {c : Value} {y : DataW H × List MemPlace}
    (ht : P.underlying t = some (.int k)) (h : DataW.trod enc P w base sp held fuel t [c] = some y) : ∃ n, c = .int k n ∧ y = (.lit (.int k n), []) := by
  cases fuel with
  | zero => simp [DataW.trod] at h
  | succ fuel =>
    cases c <;> simp [DataW.trod, ht] at h
    rename_i k' n
    obtain ⟨⟨rfl, _⟩, rfl⟩ := h
    exact ⟨n, rfl, rfl⟩
theorem sines_laid {W : World} (h : laidMet Tryz.prog [("perilune/fixed.sines", Rows.laid_perilune_fixed_sines)] W) : W.var? Tryz.prog "perilune/fixed.sines" = some sinesArr := by
  obtain ⟨ps, ⟨g, t, cs, fuel, p, q, hg, ht, hvar, hd, _, _⟩, _⟩ := h
  obtain rfl := Option.some.inj (sinesGlob.symm.trans hg)
  obtain rfl := Option.some.inj (sinesType.symm.trans ht)
  rw [hvar]
  congr 1
  obtain ⟨l⟩ := cs
  cases fuel with
  | zero => simp [DataW.trod] at hd
  | succ fuel =>
    simp only [DataW.trod, Tryz.underlying168, sinesCells, sineCell] at hd
    split at hd
    · rename_i hl
      obtain ⟨c0, c1, c2, c3, c4, c5, c6, rfl⟩ : ∃ c0 c1 c2 c3 c4 c5 c6, l = [c0, c1, c2, c3, c4, c5, c6] := by
        match l, hl with
        | [a, b, c, d, e, f, g], _ => exact ⟨a, b, c, d, e, f, g, rfl⟩
      have e : List.range 7 = [0, 1, 2, 3, 4, 5, 6] := rfl
      rw [e] at hd
      simp only [Option.map_eq_some_iff, List.mapM_cons, List.mapM_nil, Option.bind_eq_bind, Option.bind_eq_some_iff, Option.pure_def, Option.some.injEq] at hd
      obtain ⟨xs, ⟨y0, h0, _, ⟨y1, h1, _, ⟨y2, h2, _, ⟨y3, h3, _, ⟨y4, h4, _, ⟨y5, h5, _, ⟨y6, h6, _, rfl, rfl⟩, rfl⟩, rfl⟩, rfl⟩, rfl⟩, rfl⟩, rfl⟩, hx⟩ := hd
      obtain ⟨n0, rfl, rfl⟩ := int_of_trod Tryz.underlying2 h0
      obtain ⟨n1, rfl, rfl⟩ := int_of_trod Tryz.underlying2 h1
      obtain ⟨n2, rfl, rfl⟩ := int_of_trod Tryz.underlying2 h2
      obtain ⟨n3, rfl, rfl⟩ := int_of_trod Tryz.underlying2 h3
      obtain ⟨n4, rfl, rfl⟩ := int_of_trod Tryz.underlying2 h4
      obtain ⟨n5, rfl, rfl⟩ := int_of_trod Tryz.underlying2 h5
      obtain ⟨n6, rfl, rfl⟩ := int_of_trod Tryz.underlying2 h6
      simp [Rows.laid_perilune_fixed_sines] at hx
      obtain ⟨⟨rfl, rfl, rfl, rfl, rfl, rfl, rfl⟩, _⟩ := hx
      rfl
    · cases hd
theorem gi {W : World} (h : laidMet Tryz.prog [("perilune/fixed.sines", Rows.laid_perilune_fixed_sines)] W) : ZOk (fun cb => cb < W.heap.size) W.heap := by
  refine ⟨fun _ h => h, fun g τ x hg => ?_⟩
  have hv := sines_laid h
  unfold World.var? at hv
  rw [sinesGlob] at hv
  simp only [Option.bind_some] at hv
  cases hc : W.heap[0]? with
  | none => rw [hc] at hv; cases hv
  | some o =>
    rw [hc] at hv
    cases o with
    | cells c T fz =>
      simp only [Option.some.injEq] at hv
      subst hv
      match g, hg with
      | 0, hg =>
        cases hg
        exact ⟨(Array.getElem?_eq_some_iff.1 hc).1, sinesArr, T, fz, hc, by decide, ⟨rfl, rfl, rfl, rfl, rfl, rfl, rfl⟩⟩
    | _ => cases hv
end Go.Pv
/-! ### The table of the seat's types, printed by a program of this session's own (gen_tt.py), and that it is what the program's types come to. -/
namespace Go.Pv
open Go.Proofs
set_option maxRecDepth 100000

def tt1 : TT := ⟨.other, 1, 8, some [.nilf], none, true, false⟩
def tt2 : TT := ⟨.int .i64, 1, 8, some [.int .i64 0], some (.int .i64), true, true⟩
def tt3 : TT := ⟨.int .i64, 1, 8, some [.int .i64 0], some (.int .i64), true, true⟩
def tt4 : TT := ⟨.bool, 1, 1, some [.bool false], some .bool, true, true⟩
def tt5 : TT := ⟨.int .u8, 1, 1, some [.int .u8 0], some (.int .u8), true, true⟩
def tt9 : TT := ⟨.str, 1, 16, some [.str ⟨#[]⟩], some .str, true, false⟩
def tt12 : TT := ⟨.int .u64, 1, 8, some [.int .u64 0], some (.int .u64), true, true⟩
def tt21 : TT := ⟨.int .i32, 1, 4, some [.int .i32 0], some (.int .i32), true, true⟩
def tt22 : TT := ⟨.int .u16, 1, 2, some [.int .u16 0], some (.int .u16), true, true⟩
def tt23 : TT := ⟨.int .u16, 1, 2, some [.int .u16 0], some (.int .u16), true, true⟩
def tt24 : TT := ⟨.array 2 23, 2, 4, some [.int .u16 0, .int .u16 0], some (.pair (.int .u16) (.int .u16)), true, false⟩
def tt25 : TT := ⟨.array 2 23, 2, 4, some [.int .u16 0, .int .u16 0], some (.pair (.int .u16) (.int .u16)), true, false⟩
def tt26 : TT := ⟨.other, 1, 8, some [.nilf], none, true, false⟩
def tt27 : TT := ⟨.int .u8, 1, 1, some [.int .u8 0], some (.int .u8), true, true⟩
def tt28 : TT := ⟨.array 3 25, 6, 12, some [.int .u16 0, .int .u16 0, .int .u16 0, .int .u16 0, .int .u16 0, .int .u16 0], some (.pair (.pair (.int .u16) (.int .u16)) (.pair (.pair (.int .u16) (.int .u16)) (.pair (.int .u16) (.int .u16)))), true, false⟩
def tt29 : TT := ⟨.array 3 25, 6, 12, some [.int .u16 0, .int .u16 0, .int .u16 0, .int .u16 0, .int .u16 0, .int .u16 0], some (.pair (.pair (.int .u16) (.int .u16)) (.pair (.pair (.int .u16) (.int .u16)) (.pair (.int .u16) (.int .u16)))), true, false⟩
def tt30 : TT := ⟨.slice 25, 1, 24, some [.nils], some (.slice (.pair (.int .u16) (.int .u16))), true, false⟩
def tt31 : TT := ⟨.slice 27, 1, 24, some [.nils], some (.slice (.int .u8)), true, false⟩
def tt32 : TT := ⟨.slice 143, 1, 24, some [.nils], some (.slice (.pair (.int .u8) (.pair (.int .i64) (.pair (.int .u16) (.int .u16))))), true, false⟩
def tt33 : TT := ⟨.struct [⟨0, 3, false⟩, ⟨1, 27, false⟩, ⟨2, 29, false⟩, ⟨8, 30, false⟩, ⟨9, 31, false⟩, ⟨10, 4, false⟩, ⟨11, 32, false⟩], 12, 104, some [.int .i64 0, .int .u8 0, .int .u16 0, .int .u16 0, .int .u16 0, .int .u16 0, .int .u16 0, .int .u16 0, .nils, .nils, .bool false, .nils], some (.pair (.int .i64) (.pair (.int .u8) (.pair (.pair (.pair (.int .u16) (.int .u16)) (.pair (.pair (.int .u16) (.int .u16)) (.pair (.int .u16) (.int .u16)))) (.pair (.slice (.pair (.int .u16) (.int .u16))) (.pair (.slice (.int .u8)) (.pair .bool (.slice (.pair (.int .u8) (.pair (.int .i64) (.pair (.int .u16) (.int .u16))))))))))), true, false⟩
def tt34 : TT := ⟨.struct [⟨0, 3, false⟩, ⟨1, 27, false⟩, ⟨2, 29, false⟩, ⟨8, 30, false⟩, ⟨9, 31, false⟩, ⟨10, 4, false⟩, ⟨11, 32, false⟩], 12, 104, some [.int .i64 0, .int .u8 0, .int .u16 0, .int .u16 0, .int .u16 0, .int .u16 0, .int .u16 0, .int .u16 0, .nils, .nils, .bool false, .nils], some (.pair (.int .i64) (.pair (.int .u8) (.pair (.pair (.pair (.int .u16) (.int .u16)) (.pair (.pair (.int .u16) (.int .u16)) (.pair (.int .u16) (.int .u16)))) (.pair (.slice (.pair (.int .u16) (.int .u16))) (.pair (.slice (.int .u8)) (.pair .bool (.slice (.pair (.int .u8) (.pair (.int .i64) (.pair (.int .u16) (.int .u16))))))))))), true, false⟩
def tt36 : TT := ⟨.other, 1, 8, some [.nilf], none, true, false⟩
def tt37 : TT := ⟨.int .u8, 1, 1, some [.int .u8 0], some (.int .u8), true, true⟩
def tt38 : TT := ⟨.other, 1, 8, some [.nilf], none, true, false⟩
def tt39 : TT := ⟨.slice 92, 1, 24, some [.nils], some (.slice (.int .u32)), true, false⟩
def tt40 : TT := ⟨.slice 92, 1, 24, some [.nils], some (.slice (.int .u32)), true, false⟩
def tt41 : TT := ⟨.struct [⟨0, 4, false⟩, ⟨1, 40, false⟩, ⟨2, 3, false⟩], 3, 40, some [.bool false, .nils, .int .i64 0], some (.pair .bool (.pair (.slice (.int .u32)) (.int .i64))), true, false⟩
def tt42 : TT := ⟨.struct [⟨0, 4, false⟩, ⟨1, 40, false⟩, ⟨2, 3, false⟩], 3, 40, some [.bool false, .nils, .int .i64 0], some (.pair .bool (.pair (.slice (.int .u32)) (.int .i64))), true, false⟩
def tt43 : TT := ⟨.int .i64, 1, 8, some [.int .i64 0], some (.int .i64), true, true⟩
def tt45 : TT := ⟨.other, 1, 8, some [.nilf], none, true, false⟩
def tt46 : TT := ⟨.other, 1, 8, some [.nilf], none, true, false⟩
def tt47 : TT := ⟨.other, 1, 8, some [.nilf], none, true, false⟩
def tt49 : TT := ⟨.other, 1, 8, some [.nilf], none, true, false⟩
def tt50 : TT := ⟨.other, 1, 8, some [.nilf], none, true, false⟩
def tt51 : TT := ⟨.array 4 37, 4, 4, some [.int .u8 0, .int .u8 0, .int .u8 0, .int .u8 0], some (.pair (.int .u8) (.pair (.int .u8) (.pair (.int .u8) (.int .u8)))), true, false⟩
def tt53 : TT := ⟨.other, 1, 8, some [.nilf], none, true, false⟩
def tt54 : TT := ⟨.other, 1, 8, some [.nilf], none, true, false⟩
def tt55 : TT := ⟨.other, 1, 8, some [.nilf], none, true, false⟩
def tt56 : TT := ⟨.other, 1, 8, some [.nilf], none, true, false⟩
def tt57 : TT := ⟨.other, 1, 8, some [.nilf], none, true, false⟩
def tt58 : TT := ⟨.slice 23, 1, 24, some [.nils], some (.slice (.int .u16)), true, false⟩
def tt59 : TT := ⟨.int .u8, 1, 1, some [.int .u8 0], some (.int .u8), true, true⟩
def tt61 : TT := ⟨.other, 1, 8, some [.nilf], none, true, false⟩
def tt62 : TT := ⟨.other, 1, 8, some [.nilf], none, true, false⟩
def tt63 : TT := ⟨.struct [⟨0, 40, false⟩, ⟨1, 3, false⟩], 2, 32, some [.nils, .int .i64 0], some (.pair (.slice (.int .u32)) (.int .i64)), true, false⟩
def tt64 : TT := ⟨.struct [⟨0, 40, false⟩, ⟨1, 3, false⟩], 2, 32, some [.nils, .int .i64 0], some (.pair (.slice (.int .u32)) (.int .i64)), true, false⟩
def tt65 : TT := ⟨.struct [⟨0, 4, false⟩, ⟨1, 64, false⟩], 3, 40, some [.bool false, .nils, .int .i64 0], some (.pair .bool (.pair (.slice (.int .u32)) (.int .i64))), true, false⟩
def tt66 : TT := ⟨.struct [⟨0, 4, false⟩, ⟨1, 64, false⟩], 3, 40, some [.bool false, .nils, .int .i64 0], some (.pair .bool (.pair (.slice (.int .u32)) (.int .i64))), true, false⟩
def tt68 : TT := ⟨.other, 1, 8, some [.nilf], none, true, false⟩
def tt70 : TT := ⟨.other, 1, 8, some [.nilf], none, true, false⟩
def tt71 : TT := ⟨.other, 1, 8, some [.nilf], none, true, false⟩
def tt72 : TT := ⟨.other, 1, 8, some [.nilf], none, true, false⟩
def tt73 : TT := ⟨.other, 1, 8, some [.nilf], none, true, false⟩
def tt74 : TT := ⟨.int .u64, 1, 8, some [.int .u64 0], some (.int .u64), true, true⟩
def tt75 : TT := ⟨.other, 1, 8, some [.nilf], none, true, false⟩
def tt76 : TT := ⟨.other, 1, 8, some [.nilf], none, true, false⟩
def tt77 : TT := ⟨.int .u64, 1, 8, some [.int .u64 0], some (.int .u64), true, true⟩
def tt78 : TT := ⟨.other, 1, 8, some [.nilf], none, true, false⟩
def tt79 : TT := ⟨.other, 1, 8, some [.nilf], none, true, false⟩
def tt80 : TT := ⟨.other, 1, 8, some [.nilf], none, true, false⟩
def tt81 : TT := ⟨.other, 1, 8, some [.nilf], none, true, false⟩
def tt83 : TT := ⟨.other, 1, 8, some [.nilf], none, true, false⟩
def tt84 : TT := ⟨.other, 1, 8, some [.nilf], none, true, false⟩
def tt85 : TT := ⟨.slice 89, 1, 24, some [.nils], some (.slice (.pair (.int .i64) (.int .u16))), true, false⟩
def tt87 : TT := ⟨.other, 1, 8, some [.nilf], none, true, false⟩
def tt88 : TT := ⟨.struct [⟨0, 3, false⟩, ⟨1, 23, false⟩], 2, 16, some [.int .i64 0, .int .u16 0], some (.pair (.int .i64) (.int .u16)), true, false⟩
def tt89 : TT := ⟨.struct [⟨0, 3, false⟩, ⟨1, 23, false⟩], 2, 16, some [.int .i64 0, .int .u16 0], some (.pair (.int .i64) (.int .u16)), true, false⟩
def tt90 : TT := ⟨.other, 1, 8, some [.nilf], none, true, false⟩
def tt91 : TT := ⟨.other, 1, 8, some [.nilf], none, true, false⟩
def tt92 : TT := ⟨.int .u32, 1, 4, some [.int .u32 0], some (.int .u32), true, true⟩
def tt93 : TT := ⟨.other, 1, 8, some [.nilf], none, true, false⟩
def tt94 : TT := ⟨.other, 1, 8, some [.nilf], none, true, false⟩
def tt95 : TT := ⟨.other, 1, 8, some [.nilf], none, true, false⟩
def tt96 : TT := ⟨.other, 1, 8, some [.nilf], none, true, false⟩
def tt97 : TT := ⟨.other, 1, 8, some [.nilf], none, true, false⟩
def tt98 : TT := ⟨.other, 1, 8, some [.nilf], none, true, false⟩
def tt99 : TT := ⟨.other, 1, 8, some [.nilf], none, true, false⟩
def tt100 : TT := ⟨.struct [⟨0, 37, false⟩, ⟨1, 3, false⟩, ⟨2, 3, false⟩, ⟨3, 29, false⟩], 9, 40, some [.int .u8 0, .int .i64 0, .int .i64 0, .int .u16 0, .int .u16 0, .int .u16 0, .int .u16 0, .int .u16 0, .int .u16 0], some (.pair (.int .u8) (.pair (.int .i64) (.pair (.int .i64) (.pair (.pair (.int .u16) (.int .u16)) (.pair (.pair (.int .u16) (.int .u16)) (.pair (.int .u16) (.int .u16))))))), true, false⟩
def tt101 : TT := ⟨.struct [⟨0, 37, false⟩, ⟨1, 3, false⟩, ⟨2, 3, false⟩, ⟨3, 29, false⟩], 9, 40, some [.int .u8 0, .int .i64 0, .int .i64 0, .int .u16 0, .int .u16 0, .int .u16 0, .int .u16 0, .int .u16 0, .int .u16 0], some (.pair (.int .u8) (.pair (.int .i64) (.pair (.int .i64) (.pair (.pair (.int .u16) (.int .u16)) (.pair (.pair (.int .u16) (.int .u16)) (.pair (.int .u16) (.int .u16))))))), true, false⟩
def tt103 : TT := ⟨.other, 1, 8, some [.nilf], none, true, false⟩
def tt104 : TT := ⟨.struct [⟨0, 27, false⟩, ⟨1, 27, false⟩, ⟨2, 27, false⟩, ⟨3, 27, false⟩, ⟨4, 4, false⟩], 5, 5, some [.int .u8 0, .int .u8 0, .int .u8 0, .int .u8 0, .bool false], some (.pair (.int .u8) (.pair (.int .u8) (.pair (.int .u8) (.pair (.int .u8) .bool)))), true, false⟩
def tt105 : TT := ⟨.struct [⟨0, 27, false⟩, ⟨1, 27, false⟩, ⟨2, 27, false⟩, ⟨3, 27, false⟩, ⟨4, 4, false⟩], 5, 5, some [.int .u8 0, .int .u8 0, .int .u8 0, .int .u8 0, .bool false], some (.pair (.int .u8) (.pair (.int .u8) (.pair (.int .u8) (.pair (.int .u8) .bool)))), true, false⟩
def tt106 : TT := ⟨.other, 1, 8, some [.nilf], none, true, false⟩
def tt107 : TT := ⟨.other, 1, 8, some [.nilf], none, true, false⟩
def tt109 : TT := ⟨.other, 1, 8, some [.nilf], none, true, false⟩
def tt111 : TT := ⟨.other, 1, 8, some [.nilf], none, true, false⟩
def tt112 : TT := ⟨.other, 1, 8, some [.nilf], none, true, false⟩
def tt113 : TT := ⟨.other, 1, 8, some [.nilf], none, true, false⟩
def tt114 : TT := ⟨.other, 1, 8, some [.nilf], none, true, false⟩
def tt115 : TT := ⟨.other, 1, 8, some [.nilf], none, true, false⟩
def tt116 : TT := ⟨.other, 1, 8, some [.nilf], none, true, false⟩
def tt117 : TT := ⟨.other, 1, 8, some [.nilf], none, true, false⟩
def tt118 : TT := ⟨.other, 1, 8, some [.nilf], none, true, false⟩
def tt119 : TT := ⟨.other, 1, 8, some [.nilf], none, true, false⟩
def tt121 : TT := ⟨.other, 1, 8, some [.nilf], none, true, false⟩
def tt122 : TT := ⟨.int .u8, 1, 1, some [.int .u8 0], some (.int .u8), true, true⟩
def tt123 : TT := ⟨.other, 1, 8, some [.nilf], none, true, false⟩
def tt124 : TT := ⟨.other, 1, 8, some [.nilf], none, true, false⟩
def tt125 : TT := ⟨.struct [⟨0, 9, false⟩, ⟨1, 122, false⟩, ⟨2, 27, false⟩, ⟨3, 27, false⟩, ⟨4, 27, false⟩, ⟨5, 27, false⟩], 6, 24, some [.str ⟨#[]⟩, .int .u8 0, .int .u8 0, .int .u8 0, .int .u8 0, .int .u8 0], some (.pair .str (.pair (.int .u8) (.pair (.int .u8) (.pair (.int .u8) (.pair (.int .u8) (.int .u8)))))), true, false⟩
def tt126 : TT := ⟨.struct [⟨0, 9, false⟩, ⟨1, 122, false⟩, ⟨2, 27, false⟩, ⟨3, 27, false⟩, ⟨4, 27, false⟩, ⟨5, 27, false⟩], 6, 24, some [.str ⟨#[]⟩, .int .u8 0, .int .u8 0, .int .u8 0, .int .u8 0, .int .u8 0], some (.pair .str (.pair (.int .u8) (.pair (.int .u8) (.pair (.int .u8) (.pair (.int .u8) (.int .u8)))))), true, false⟩
def tt127 : TT := ⟨.other, 1, 8, some [.nilf], none, true, false⟩
def tt128 : TT := ⟨.other, 1, 8, some [.nilf], none, true, false⟩
def tt129 : TT := ⟨.other, 1, 8, some [.nilf], none, true, false⟩
def tt130 : TT := ⟨.other, 1, 8, some [.nilf], none, true, false⟩
def tt131 : TT := ⟨.other, 1, 8, some [.nilf], none, true, false⟩
def tt132 : TT := ⟨.other, 1, 8, some [.nilf], none, true, false⟩
def tt133 : TT := ⟨.other, 1, 8, some [.nilf], none, true, false⟩
def tt134 : TT := ⟨.other, 1, 8, some [.nilf], none, true, false⟩
def tt135 : TT := ⟨.array 3 29, 18, 36, some [.int .u16 0, .int .u16 0, .int .u16 0, .int .u16 0, .int .u16 0, .int .u16 0, .int .u16 0, .int .u16 0, .int .u16 0, .int .u16 0, .int .u16 0, .int .u16 0, .int .u16 0, .int .u16 0, .int .u16 0, .int .u16 0, .int .u16 0, .int .u16 0], some (.pair (.pair (.pair (.int .u16) (.int .u16)) (.pair (.pair (.int .u16) (.int .u16)) (.pair (.int .u16) (.int .u16)))) (.pair (.pair (.pair (.int .u16) (.int .u16)) (.pair (.pair (.int .u16) (.int .u16)) (.pair (.int .u16) (.int .u16)))) (.pair (.pair (.int .u16) (.int .u16)) (.pair (.pair (.int .u16) (.int .u16)) (.pair (.int .u16) (.int .u16)))))), true, false⟩
def tt136 : TT := ⟨.array 3 29, 18, 36, some [.int .u16 0, .int .u16 0, .int .u16 0, .int .u16 0, .int .u16 0, .int .u16 0, .int .u16 0, .int .u16 0, .int .u16 0, .int .u16 0, .int .u16 0, .int .u16 0, .int .u16 0, .int .u16 0, .int .u16 0, .int .u16 0, .int .u16 0, .int .u16 0], some (.pair (.pair (.pair (.int .u16) (.int .u16)) (.pair (.pair (.int .u16) (.int .u16)) (.pair (.int .u16) (.int .u16)))) (.pair (.pair (.pair (.int .u16) (.int .u16)) (.pair (.pair (.int .u16) (.int .u16)) (.pair (.int .u16) (.int .u16)))) (.pair (.pair (.int .u16) (.int .u16)) (.pair (.pair (.int .u16) (.int .u16)) (.pair (.int .u16) (.int .u16)))))), true, false⟩
def tt137 : TT := ⟨.other, 1, 8, some [.nilf], none, true, false⟩
def tt139 : TT := ⟨.other, 1, 8, some [.nilf], none, true, false⟩
def tt140 : TT := ⟨.other, 1, 8, some [.nilf], none, true, false⟩
def tt141 : TT := ⟨.other, 1, 8, some [.nilf], none, true, false⟩
def tt142 : TT := ⟨.struct [⟨0, 37, false⟩, ⟨1, 3, false⟩, ⟨2, 25, false⟩], 4, 24, some [.int .u8 0, .int .i64 0, .int .u16 0, .int .u16 0], some (.pair (.int .u8) (.pair (.int .i64) (.pair (.int .u16) (.int .u16)))), true, false⟩
def tt143 : TT := ⟨.struct [⟨0, 37, false⟩, ⟨1, 3, false⟩, ⟨2, 25, false⟩], 4, 24, some [.int .u8 0, .int .i64 0, .int .u16 0, .int .u16 0], some (.pair (.int .u8) (.pair (.int .i64) (.pair (.int .u16) (.int .u16)))), true, false⟩
def tt144 : TT := ⟨.array 39 126, 234, 936, some [.str ⟨#[]⟩, .int .u8 0, .int .u8 0, .int .u8 0, .int .u8 0, .int .u8 0, .str ⟨#[]⟩, .int .u8 0, .int .u8 0, .int .u8 0, .int .u8 0, .int .u8 0, .str ⟨#[]⟩, .int .u8 0, .int .u8 0, .int .u8 0, .int .u8 0, .int .u8 0, .str ⟨#[]⟩, .int .u8 0, .int .u8 0, .int .u8 0, .int .u8 0, .int .u8 0, .str ⟨#[]⟩, .int .u8 0, .int .u8 0, .int .u8 0, .int .u8 0, .int .u8 0, .str ⟨#[]⟩, .int .u8 0, .int .u8 0, .int .u8 0, .int .u8 0, .int .u8 0, .str ⟨#[]⟩, .int .u8 0, .int .u8 0, .int .u8 0, .int .u8 0, .int .u8 0, .str ⟨#[]⟩, .int .u8 0, .int .u8 0, .int .u8 0, .int .u8 0, .int .u8 0, .str ⟨#[]⟩, .int .u8 0, .int .u8 0, .int .u8 0, .int .u8 0, .int .u8 0, .str ⟨#[]⟩, .int .u8 0, .int .u8 0, .int .u8 0, .int .u8 0, .int .u8 0, .str ⟨#[]⟩, .int .u8 0, .int .u8 0, .int .u8 0, .int .u8 0, .int .u8 0, .str ⟨#[]⟩, .int .u8 0, .int .u8 0, .int .u8 0, .int .u8 0, .int .u8 0, .str ⟨#[]⟩, .int .u8 0, .int .u8 0, .int .u8 0, .int .u8 0, .int .u8 0, .str ⟨#[]⟩, .int .u8 0, .int .u8 0, .int .u8 0, .int .u8 0, .int .u8 0, .str ⟨#[]⟩, .int .u8 0, .int .u8 0, .int .u8 0, .int .u8 0, .int .u8 0, .str ⟨#[]⟩, .int .u8 0, .int .u8 0, .int .u8 0, .int .u8 0, .int .u8 0, .str ⟨#[]⟩, .int .u8 0, .int .u8 0, .int .u8 0, .int .u8 0, .int .u8 0, .str ⟨#[]⟩, .int .u8 0, .int .u8 0, .int .u8 0, .int .u8 0, .int .u8 0, .str ⟨#[]⟩, .int .u8 0, .int .u8 0, .int .u8 0, .int .u8 0, .int .u8 0, .str ⟨#[]⟩, .int .u8 0, .int .u8 0, .int .u8 0, .int .u8 0, .int .u8 0, .str ⟨#[]⟩, .int .u8 0, .int .u8 0, .int .u8 0, .int .u8 0, .int .u8 0, .str ⟨#[]⟩, .int .u8 0, .int .u8 0, .int .u8 0, .int .u8 0, .int .u8 0, .str ⟨#[]⟩, .int .u8 0, .int .u8 0, .int .u8 0, .int .u8 0, .int .u8 0, .str ⟨#[]⟩, .int .u8 0, .int .u8 0, .int .u8 0, .int .u8 0, .int .u8 0, .str ⟨#[]⟩, .int .u8 0, .int .u8 0, .int .u8 0, .int .u8 0, .int .u8 0, .str ⟨#[]⟩, .int .u8 0, .int .u8 0, .int .u8 0, .int .u8 0, .int .u8 0, .str ⟨#[]⟩, .int .u8 0, .int .u8 0, .int .u8 0, .int .u8 0, .int .u8 0, .str ⟨#[]⟩, .int .u8 0, .int .u8 0, .int .u8 0, .int .u8 0, .int .u8 0, .str ⟨#[]⟩, .int .u8 0, .int .u8 0, .int .u8 0, .int .u8 0, .int .u8 0, .str ⟨#[]⟩, .int .u8 0, .int .u8 0, .int .u8 0, .int .u8 0, .int .u8 0, .str ⟨#[]⟩, .int .u8 0, .int .u8 0, .int .u8 0, .int .u8 0, .int .u8 0, .str ⟨#[]⟩, .int .u8 0, .int .u8 0, .int .u8 0, .int .u8 0, .int .u8 0, .str ⟨#[]⟩, .int .u8 0, .int .u8 0, .int .u8 0, .int .u8 0, .int .u8 0, .str ⟨#[]⟩, .int .u8 0, .int .u8 0, .int .u8 0, .int .u8 0, .int .u8 0, .str ⟨#[]⟩, .int .u8 0, .int .u8 0, .int .u8 0, .int .u8 0, .int .u8 0, .str ⟨#[]⟩, .int .u8 0, .int .u8 0, .int .u8 0, .int .u8 0, .int .u8 0, .str ⟨#[]⟩, .int .u8 0, .int .u8 0, .int .u8 0, .int .u8 0, .int .u8 0, .str ⟨#[]⟩, .int .u8 0, .int .u8 0, .int .u8 0, .int .u8 0, .int .u8 0, .str ⟨#[]⟩, .int .u8 0, .int .u8 0, .int .u8 0, .int .u8 0, .int .u8 0], some (.pair (.pair .str (.pair (.int .u8) (.pair (.int .u8) (.pair (.int .u8) (.pair (.int .u8) (.int .u8)))))) (.pair (.pair .str (.pair (.int .u8) (.pair (.int .u8) (.pair (.int .u8) (.pair (.int .u8) (.int .u8)))))) (.pair (.pair .str (.pair (.int .u8) (.pair (.int .u8) (.pair (.int .u8) (.pair (.int .u8) (.int .u8)))))) (.pair (.pair .str (.pair (.int .u8) (.pair (.int .u8) (.pair (.int .u8) (.pair (.int .u8) (.int .u8)))))) (.pair (.pair .str (.pair (.int .u8) (.pair (.int .u8) (.pair (.int .u8) (.pair (.int .u8) (.int .u8)))))) (.pair (.pair .str (.pair (.int .u8) (.pair (.int .u8) (.pair (.int .u8) (.pair (.int .u8) (.int .u8)))))) (.pair (.pair .str (.pair (.int .u8) (.pair (.int .u8) (.pair (.int .u8) (.pair (.int .u8) (.int .u8)))))) (.pair (.pair .str (.pair (.int .u8) (.pair (.int .u8) (.pair (.int .u8) (.pair (.int .u8) (.int .u8)))))) (.pair (.pair .str (.pair (.int .u8) (.pair (.int .u8) (.pair (.int .u8) (.pair (.int .u8) (.int .u8)))))) (.pair (.pair .str (.pair (.int .u8) (.pair (.int .u8) (.pair (.int .u8) (.pair (.int .u8) (.int .u8)))))) (.pair (.pair .str (.pair (.int .u8) (.pair (.int .u8) (.pair (.int .u8) (.pair (.int .u8) (.int .u8)))))) (.pair (.pair .str (.pair (.int .u8) (.pair (.int .u8) (.pair (.int .u8) (.pair (.int .u8) (.int .u8)))))) (.pair (.pair .str (.pair (.int .u8) (.pair (.int .u8) (.pair (.int .u8) (.pair (.int .u8) (.int .u8)))))) (.pair (.pair .str (.pair (.int .u8) (.pair (.int .u8) (.pair (.int .u8) (.pair (.int .u8) (.int .u8)))))) (.pair (.pair .str (.pair (.int .u8) (.pair (.int .u8) (.pair (.int .u8) (.pair (.int .u8) (.int .u8)))))) (.pair (.pair .str (.pair (.int .u8) (.pair (.int .u8) (.pair (.int .u8) (.pair (.int .u8) (.int .u8)))))) (.pair (.pair .str (.pair (.int .u8) (.pair (.int .u8) (.pair (.int .u8) (.pair (.int .u8) (.int .u8)))))) (.pair (.pair .str (.pair (.int .u8) (.pair (.int .u8) (.pair (.int .u8) (.pair (.int .u8) (.int .u8)))))) (.pair (.pair .str (.pair (.int .u8) (.pair (.int .u8) (.pair (.int .u8) (.pair (.int .u8) (.int .u8)))))) (.pair (.pair .str (.pair (.int .u8) (.pair (.int .u8) (.pair (.int .u8) (.pair (.int .u8) (.int .u8)))))) (.pair (.pair .str (.pair (.int .u8) (.pair (.int .u8) (.pair (.int .u8) (.pair (.int .u8) (.int .u8)))))) (.pair (.pair .str (.pair (.int .u8) (.pair (.int .u8) (.pair (.int .u8) (.pair (.int .u8) (.int .u8)))))) (.pair (.pair .str (.pair (.int .u8) (.pair (.int .u8) (.pair (.int .u8) (.pair (.int .u8) (.int .u8)))))) (.pair (.pair .str (.pair (.int .u8) (.pair (.int .u8) (.pair (.int .u8) (.pair (.int .u8) (.int .u8)))))) (.pair (.pair .str (.pair (.int .u8) (.pair (.int .u8) (.pair (.int .u8) (.pair (.int .u8) (.int .u8)))))) (.pair (.pair .str (.pair (.int .u8) (.pair (.int .u8) (.pair (.int .u8) (.pair (.int .u8) (.int .u8)))))) (.pair (.pair .str (.pair (.int .u8) (.pair (.int .u8) (.pair (.int .u8) (.pair (.int .u8) (.int .u8)))))) (.pair (.pair .str (.pair (.int .u8) (.pair (.int .u8) (.pair (.int .u8) (.pair (.int .u8) (.int .u8)))))) (.pair (.pair .str (.pair (.int .u8) (.pair (.int .u8) (.pair (.int .u8) (.pair (.int .u8) (.int .u8)))))) (.pair (.pair .str (.pair (.int .u8) (.pair (.int .u8) (.pair (.int .u8) (.pair (.int .u8) (.int .u8)))))) (.pair (.pair .str (.pair (.int .u8) (.pair (.int .u8) (.pair (.int .u8) (.pair (.int .u8) (.int .u8)))))) (.pair (.pair .str (.pair (.int .u8) (.pair (.int .u8) (.pair (.int .u8) (.pair (.int .u8) (.int .u8)))))) (.pair (.pair .str (.pair (.int .u8) (.pair (.int .u8) (.pair (.int .u8) (.pair (.int .u8) (.int .u8)))))) (.pair (.pair .str (.pair (.int .u8) (.pair (.int .u8) (.pair (.int .u8) (.pair (.int .u8) (.int .u8)))))) (.pair (.pair .str (.pair (.int .u8) (.pair (.int .u8) (.pair (.int .u8) (.pair (.int .u8) (.int .u8)))))) (.pair (.pair .str (.pair (.int .u8) (.pair (.int .u8) (.pair (.int .u8) (.pair (.int .u8) (.int .u8)))))) (.pair (.pair .str (.pair (.int .u8) (.pair (.int .u8) (.pair (.int .u8) (.pair (.int .u8) (.int .u8)))))) (.pair (.pair .str (.pair (.int .u8) (.pair (.int .u8) (.pair (.int .u8) (.pair (.int .u8) (.int .u8)))))) (.pair .str (.pair (.int .u8) (.pair (.int .u8) (.pair (.int .u8) (.pair (.int .u8) (.int .u8)))))))))))))))))))))))))))))))))))))))))))), true, false⟩
def tt145 : TT := ⟨.other, 1, 8, some [.nilf], none, true, false⟩
def tt146 : TT := ⟨.other, 1, 8, some [.nilf], none, true, false⟩
def tt147 : TT := ⟨.other, 1, 8, some [.nilf], none, true, false⟩
def tt148 : TT := ⟨.other, 1, 8, some [.nilf], none, true, false⟩
def tt149 : TT := ⟨.array 3 2, 3, 24, some [.int .i64 0, .int .i64 0, .int .i64 0], some (.pair (.int .i64) (.pair (.int .i64) (.int .i64))), true, false⟩
def tt150 : TT := ⟨.other, 1, 8, some [.nilf], none, true, false⟩
def tt151 : TT := ⟨.other, 1, 8, some [.nilf], none, true, false⟩
def tt152 : TT := ⟨.other, 1, 8, some [.nilf], none, true, false⟩
def tt153 : TT := ⟨.other, 1, 8, some [.nilf], none, true, false⟩
def tt155 : TT := ⟨.other, 1, 8, some [.nilf], none, true, false⟩
def tt156 : TT := ⟨.other, 1, 8, some [.nilf], none, true, false⟩
def tt157 : TT := ⟨.other, 1, 8, some [.nilf], none, true, false⟩
def tt158 : TT := ⟨.other, 1, 8, some [.nilf], none, true, false⟩
def tt159 : TT := ⟨.other, 1, 8, some [.nilf], none, true, false⟩
def tt160 : TT := ⟨.other, 1, 8, some [.nilf], none, true, false⟩
def tt161 : TT := ⟨.other, 1, 8, some [.nilf], none, true, false⟩
def tt162 : TT := ⟨.other, 1, 8, some [.nilf], none, true, false⟩
def tt163 : TT := ⟨.other, 1, 8, some [.nilf], none, true, false⟩
def tt164 : TT := ⟨.other, 1, 8, some [.nilf], none, true, false⟩
def tt166 : TT := ⟨.other, 1, 8, some [.nilf], none, true, false⟩
def tt167 : TT := ⟨.other, 1, 8, some [.nilf], none, true, false⟩
def tt168 : TT := ⟨.array 7 2, 7, 56, some [.int .i64 0, .int .i64 0, .int .i64 0, .int .i64 0, .int .i64 0, .int .i64 0, .int .i64 0], some (.pair (.int .i64) (.pair (.int .i64) (.pair (.int .i64) (.pair (.int .i64) (.pair (.int .i64) (.pair (.int .i64) (.int .i64))))))), true, false⟩
def tt169 : TT := ⟨.other, 1, 8, some [.nilf], none, true, false⟩
def tt177 : TT := ⟨.other, 1, 8, some [.nilf], none, true, false⟩
def tt178 : TT := ⟨.other, 1, 8, some [.nilp], none, true, false⟩
theorem tt1_ok : tt1 = TT.of Tryz.prog 1 := by kernel_rfl
theorem tt2_ok : tt2 = TT.of Tryz.prog 2 := by kernel_rfl
theorem tt3_ok : tt3 = TT.of Tryz.prog 3 := by kernel_rfl
theorem tt4_ok : tt4 = TT.of Tryz.prog 4 := by kernel_rfl
theorem tt5_ok : tt5 = TT.of Tryz.prog 5 := by kernel_rfl
theorem tt9_ok : tt9 = TT.of Tryz.prog 9 := by kernel_rfl
theorem tt12_ok : tt12 = TT.of Tryz.prog 12 := by kernel_rfl
theorem tt21_ok : tt21 = TT.of Tryz.prog 21 := by kernel_rfl
theorem tt22_ok : tt22 = TT.of Tryz.prog 22 := by kernel_rfl
theorem tt23_ok : tt23 = TT.of Tryz.prog 23 := by kernel_rfl
theorem tt24_ok : tt24 = TT.of Tryz.prog 24 := by kernel_rfl
theorem tt25_ok : tt25 = TT.of Tryz.prog 25 := by kernel_rfl
theorem tt26_ok : tt26 = TT.of Tryz.prog 26 := by kernel_rfl
theorem tt27_ok : tt27 = TT.of Tryz.prog 27 := by kernel_rfl
theorem tt28_ok : tt28 = TT.of Tryz.prog 28 := by kernel_rfl
theorem tt29_ok : tt29 = TT.of Tryz.prog 29 := by kernel_rfl
theorem tt30_ok : tt30 = TT.of Tryz.prog 30 := by kernel_rfl
theorem tt31_ok : tt31 = TT.of Tryz.prog 31 := by kernel_rfl
theorem tt32_ok : tt32 = TT.of Tryz.prog 32 := by kernel_rfl
theorem tt33_ok : tt33 = TT.of Tryz.prog 33 := by kernel_rfl
theorem tt34_ok : tt34 = TT.of Tryz.prog 34 := by kernel_rfl
theorem tt36_ok : tt36 = TT.of Tryz.prog 36 := by kernel_rfl
theorem tt37_ok : tt37 = TT.of Tryz.prog 37 := by kernel_rfl
theorem tt38_ok : tt38 = TT.of Tryz.prog 38 := by kernel_rfl
theorem tt39_ok : tt39 = TT.of Tryz.prog 39 := by kernel_rfl
theorem tt40_ok : tt40 = TT.of Tryz.prog 40 := by kernel_rfl
theorem tt41_ok : tt41 = TT.of Tryz.prog 41 := by kernel_rfl
theorem tt42_ok : tt42 = TT.of Tryz.prog 42 := by kernel_rfl
theorem tt43_ok : tt43 = TT.of Tryz.prog 43 := by kernel_rfl
theorem tt45_ok : tt45 = TT.of Tryz.prog 45 := by kernel_rfl
theorem tt46_ok : tt46 = TT.of Tryz.prog 46 := by kernel_rfl
theorem tt47_ok : tt47 = TT.of Tryz.prog 47 := by kernel_rfl
theorem tt49_ok : tt49 = TT.of Tryz.prog 49 := by kernel_rfl
theorem tt50_ok : tt50 = TT.of Tryz.prog 50 := by kernel_rfl
theorem tt51_ok : tt51 = TT.of Tryz.prog 51 := by kernel_rfl
theorem tt53_ok : tt53 = TT.of Tryz.prog 53 := by kernel_rfl
theorem tt54_ok : tt54 = TT.of Tryz.prog 54 := by kernel_rfl
theorem tt55_ok : tt55 = TT.of Tryz.prog 55 := by kernel_rfl
theorem tt56_ok : tt56 = TT.of Tryz.prog 56 := by kernel_rfl
theorem tt57_ok : tt57 = TT.of Tryz.prog 57 := by kernel_rfl
theorem tt58_ok : tt58 = TT.of Tryz.prog 58 := by kernel_rfl
theorem tt59_ok : tt59 = TT.of Tryz.prog 59 := by kernel_rfl
theorem tt61_ok : tt61 = TT.of Tryz.prog 61 := by kernel_rfl
theorem tt62_ok : tt62 = TT.of Tryz.prog 62 := by kernel_rfl
theorem tt63_ok : tt63 = TT.of Tryz.prog 63 := by kernel_rfl
theorem tt64_ok : tt64 = TT.of Tryz.prog 64 := by kernel_rfl
theorem tt65_ok : tt65 = TT.of Tryz.prog 65 := by kernel_rfl
theorem tt66_ok : tt66 = TT.of Tryz.prog 66 := by kernel_rfl
theorem tt68_ok : tt68 = TT.of Tryz.prog 68 := by kernel_rfl
theorem tt70_ok : tt70 = TT.of Tryz.prog 70 := by kernel_rfl
theorem tt71_ok : tt71 = TT.of Tryz.prog 71 := by kernel_rfl
theorem tt72_ok : tt72 = TT.of Tryz.prog 72 := by kernel_rfl
theorem tt73_ok : tt73 = TT.of Tryz.prog 73 := by kernel_rfl
theorem tt74_ok : tt74 = TT.of Tryz.prog 74 := by kernel_rfl
theorem tt75_ok : tt75 = TT.of Tryz.prog 75 := by kernel_rfl
theorem tt76_ok : tt76 = TT.of Tryz.prog 76 := by kernel_rfl
theorem tt77_ok : tt77 = TT.of Tryz.prog 77 := by kernel_rfl
theorem tt78_ok : tt78 = TT.of Tryz.prog 78 := by kernel_rfl
theorem tt79_ok : tt79 = TT.of Tryz.prog 79 := by kernel_rfl
theorem tt80_ok : tt80 = TT.of Tryz.prog 80 := by kernel_rfl
theorem tt81_ok : tt81 = TT.of Tryz.prog 81 := by kernel_rfl
theorem tt83_ok : tt83 = TT.of Tryz.prog 83 := by kernel_rfl
theorem tt84_ok : tt84 = TT.of Tryz.prog 84 := by kernel_rfl
theorem tt85_ok : tt85 = TT.of Tryz.prog 85 := by kernel_rfl
theorem tt87_ok : tt87 = TT.of Tryz.prog 87 := by kernel_rfl
theorem tt88_ok : tt88 = TT.of Tryz.prog 88 := by kernel_rfl
theorem tt89_ok : tt89 = TT.of Tryz.prog 89 := by kernel_rfl
theorem tt90_ok : tt90 = TT.of Tryz.prog 90 := by kernel_rfl
theorem tt91_ok : tt91 = TT.of Tryz.prog 91 := by kernel_rfl
theorem tt92_ok : tt92 = TT.of Tryz.prog 92 := by kernel_rfl
theorem tt93_ok : tt93 = TT.of Tryz.prog 93 := by kernel_rfl
theorem tt94_ok : tt94 = TT.of Tryz.prog 94 := by kernel_rfl
theorem tt95_ok : tt95 = TT.of Tryz.prog 95 := by kernel_rfl
theorem tt96_ok : tt96 = TT.of Tryz.prog 96 := by kernel_rfl
theorem tt97_ok : tt97 = TT.of Tryz.prog 97 := by kernel_rfl
theorem tt98_ok : tt98 = TT.of Tryz.prog 98 := by kernel_rfl
theorem tt99_ok : tt99 = TT.of Tryz.prog 99 := by kernel_rfl
theorem tt100_ok : tt100 = TT.of Tryz.prog 100 := by kernel_rfl
theorem tt101_ok : tt101 = TT.of Tryz.prog 101 := by kernel_rfl
theorem tt103_ok : tt103 = TT.of Tryz.prog 103 := by kernel_rfl
theorem tt104_ok : tt104 = TT.of Tryz.prog 104 := by kernel_rfl
theorem tt105_ok : tt105 = TT.of Tryz.prog 105 := by kernel_rfl
theorem tt106_ok : tt106 = TT.of Tryz.prog 106 := by kernel_rfl
theorem tt107_ok : tt107 = TT.of Tryz.prog 107 := by kernel_rfl
theorem tt109_ok : tt109 = TT.of Tryz.prog 109 := by kernel_rfl
theorem tt111_ok : tt111 = TT.of Tryz.prog 111 := by kernel_rfl
theorem tt112_ok : tt112 = TT.of Tryz.prog 112 := by kernel_rfl
theorem tt113_ok : tt113 = TT.of Tryz.prog 113 := by kernel_rfl
theorem tt114_ok : tt114 = TT.of Tryz.prog 114 := by kernel_rfl
theorem tt115_ok : tt115 = TT.of Tryz.prog 115 := by kernel_rfl
theorem tt116_ok : tt116 = TT.of Tryz.prog 116 := by kernel_rfl
theorem tt117_ok : tt117 = TT.of Tryz.prog 117 := by kernel_rfl
theorem tt118_ok : tt118 = TT.of Tryz.prog 118 := by kernel_rfl
theorem tt119_ok : tt119 = TT.of Tryz.prog 119 := by kernel_rfl
theorem tt121_ok : tt121 = TT.of Tryz.prog 121 := by kernel_rfl
theorem tt122_ok : tt122 = TT.of Tryz.prog 122 := by kernel_rfl
theorem tt123_ok : tt123 = TT.of Tryz.prog 123 := by kernel_rfl
theorem tt124_ok : tt124 = TT.of Tryz.prog 124 := by kernel_rfl
theorem tt125_ok : tt125 = TT.of Tryz.prog 125 := by kernel_rfl
theorem tt126_ok : tt126 = TT.of Tryz.prog 126 := by kernel_rfl
theorem tt127_ok : tt127 = TT.of Tryz.prog 127 := by kernel_rfl
theorem tt128_ok : tt128 = TT.of Tryz.prog 128 := by kernel_rfl
theorem tt129_ok : tt129 = TT.of Tryz.prog 129 := by kernel_rfl
theorem tt130_ok : tt130 = TT.of Tryz.prog 130 := by kernel_rfl
theorem tt131_ok : tt131 = TT.of Tryz.prog 131 := by kernel_rfl
theorem tt132_ok : tt132 = TT.of Tryz.prog 132 := by kernel_rfl
theorem tt133_ok : tt133 = TT.of Tryz.prog 133 := by kernel_rfl
theorem tt134_ok : tt134 = TT.of Tryz.prog 134 := by kernel_rfl
theorem tt135_ok : tt135 = TT.of Tryz.prog 135 := by kernel_rfl
theorem tt136_ok : tt136 = TT.of Tryz.prog 136 := by kernel_rfl
theorem tt137_ok : tt137 = TT.of Tryz.prog 137 := by kernel_rfl
theorem tt139_ok : tt139 = TT.of Tryz.prog 139 := by kernel_rfl
theorem tt140_ok : tt140 = TT.of Tryz.prog 140 := by kernel_rfl
theorem tt141_ok : tt141 = TT.of Tryz.prog 141 := by kernel_rfl
theorem tt142_ok : tt142 = TT.of Tryz.prog 142 := by kernel_rfl
theorem tt143_ok : tt143 = TT.of Tryz.prog 143 := by kernel_rfl
theorem tt144_ok : tt144 = TT.of Tryz.prog 144 := by kernel_rfl
theorem tt145_ok : tt145 = TT.of Tryz.prog 145 := by kernel_rfl
theorem tt146_ok : tt146 = TT.of Tryz.prog 146 := by kernel_rfl
theorem tt147_ok : tt147 = TT.of Tryz.prog 147 := by kernel_rfl
theorem tt148_ok : tt148 = TT.of Tryz.prog 148 := by kernel_rfl
theorem tt149_ok : tt149 = TT.of Tryz.prog 149 := by kernel_rfl
theorem tt150_ok : tt150 = TT.of Tryz.prog 150 := by kernel_rfl
theorem tt151_ok : tt151 = TT.of Tryz.prog 151 := by kernel_rfl
theorem tt152_ok : tt152 = TT.of Tryz.prog 152 := by kernel_rfl
theorem tt153_ok : tt153 = TT.of Tryz.prog 153 := by kernel_rfl
theorem tt155_ok : tt155 = TT.of Tryz.prog 155 := by kernel_rfl
theorem tt156_ok : tt156 = TT.of Tryz.prog 156 := by kernel_rfl
theorem tt157_ok : tt157 = TT.of Tryz.prog 157 := by kernel_rfl
theorem tt158_ok : tt158 = TT.of Tryz.prog 158 := by kernel_rfl
theorem tt159_ok : tt159 = TT.of Tryz.prog 159 := by kernel_rfl
theorem tt160_ok : tt160 = TT.of Tryz.prog 160 := by kernel_rfl
theorem tt161_ok : tt161 = TT.of Tryz.prog 161 := by kernel_rfl
theorem tt162_ok : tt162 = TT.of Tryz.prog 162 := by kernel_rfl
theorem tt163_ok : tt163 = TT.of Tryz.prog 163 := by kernel_rfl
theorem tt164_ok : tt164 = TT.of Tryz.prog 164 := by kernel_rfl
theorem tt166_ok : tt166 = TT.of Tryz.prog 166 := by kernel_rfl
theorem tt167_ok : tt167 = TT.of Tryz.prog 167 := by kernel_rfl
theorem tt168_ok : tt168 = TT.of Tryz.prog 168 := by kernel_rfl
theorem tt169_ok : tt169 = TT.of Tryz.prog 169 := by kernel_rfl
theorem tt177_ok : tt177 = TT.of Tryz.prog 177 := by kernel_rfl
theorem tt178_ok : tt178 = TT.of Tryz.prog 178 := by kernel_rfl
def tt (t : Nat) : TT :=
  match t with
  | 1 => tt1
  | 2 => tt2
  | 3 => tt3
  | 4 => tt4
  | 5 => tt5
  | 9 => tt9
  | 12 => tt12
  | 21 => tt21
  | 22 => tt22
  | 23 => tt23
  | 24 => tt24
  | 25 => tt25
  | 26 => tt26
  | 27 => tt27
  | 28 => tt28
  | 29 => tt29
  | 30 => tt30
  | 31 => tt31
  | 32 => tt32
  | 33 => tt33
  | 34 => tt34
  | 36 => tt36
  | 37 => tt37
  | 38 => tt38
  | 39 => tt39
  | 40 => tt40
  | 41 => tt41
  | 42 => tt42
  | 43 => tt43
  | 45 => tt45
  | 46 => tt46
  | 47 => tt47
  | 49 => tt49
  | 50 => tt50
  | 51 => tt51
  | 53 => tt53
  | 54 => tt54
  | 55 => tt55
  | 56 => tt56
  | 57 => tt57
  | 58 => tt58
  | 59 => tt59
  | 61 => tt61
  | 62 => tt62
  | 63 => tt63
  | 64 => tt64
  | 65 => tt65
  | 66 => tt66
  | 68 => tt68
  | 70 => tt70
  | 71 => tt71
  | 72 => tt72
  | 73 => tt73
  | 74 => tt74
  | 75 => tt75
  | 76 => tt76
  | 77 => tt77
  | 78 => tt78
  | 79 => tt79
  | 80 => tt80
  | 81 => tt81
  | 83 => tt83
  | 84 => tt84
  | 85 => tt85
  | 87 => tt87
  | 88 => tt88
  | 89 => tt89
  | 90 => tt90
  | 91 => tt91
  | 92 => tt92
  | 93 => tt93
  | 94 => tt94
  | 95 => tt95
  | 96 => tt96
  | 97 => tt97
  | 98 => tt98
  | 99 => tt99
  | 100 => tt100
  | 101 => tt101
  | 103 => tt103
  | 104 => tt104
  | 105 => tt105
  | 106 => tt106
  | 107 => tt107
  | 109 => tt109
  | 111 => tt111
  | 112 => tt112
  | 113 => tt113
  | 114 => tt114
  | 115 => tt115
  | 116 => tt116
  | 117 => tt117
  | 118 => tt118
  | 119 => tt119
  | 121 => tt121
  | 122 => tt122
  | 123 => tt123
  | 124 => tt124
  | 125 => tt125
  | 126 => tt126
  | 127 => tt127
  | 128 => tt128
  | 129 => tt129
  | 130 => tt130
  | 131 => tt131
  | 132 => tt132
  | 133 => tt133
  | 134 => tt134
  | 135 => tt135
  | 136 => tt136
  | 137 => tt137
  | 139 => tt139
  | 140 => tt140
  | 141 => tt141
  | 142 => tt142
  | 143 => tt143
  | 144 => tt144
  | 145 => tt145
  | 146 => tt146
  | 147 => tt147
  | 148 => tt148
  | 149 => tt149
  | 150 => tt150
  | 151 => tt151
  | 152 => tt152
  | 153 => tt153
  | 155 => tt155
  | 156 => tt156
  | 157 => tt157
  | 158 => tt158
  | 159 => tt159
  | 160 => tt160
  | 161 => tt161
  | 162 => tt162
  | 163 => tt163
  | 164 => tt164
  | 166 => tt166
  | 167 => tt167
  | 168 => tt168
  | 169 => tt169
  | 177 => tt177
  | 178 => tt178
  | _ => TT.bad
theorem tt_ok (t : Nat) : (tt t).kind = .bad ∨ tt t = TT.of Tryz.prog t := by
  unfold tt
  split
  · exact .inr tt1_ok
  · exact .inr tt2_ok
  · exact .inr tt3_ok
  · exact .inr tt4_ok
  · exact .inr tt5_ok
  · exact .inr tt9_ok
  · exact .inr tt12_ok
  · exact .inr tt21_ok
  · exact .inr tt22_ok
  · exact .inr tt23_ok
  · exact .inr tt24_ok
  · exact .inr tt25_ok
  · exact .inr tt26_ok
  · exact .inr tt27_ok
  · exact .inr tt28_ok
  · exact .inr tt29_ok
  · exact .inr tt30_ok
  · exact .inr tt31_ok
  · exact .inr tt32_ok
  · exact .inr tt33_ok
  · exact .inr tt34_ok
  · exact .inr tt36_ok
  · exact .inr tt37_ok
  · exact .inr tt38_ok
  · exact .inr tt39_ok
  · exact .inr tt40_ok
  · exact .inr tt41_ok
  · exact .inr tt42_ok
  · exact .inr tt43_ok
  · exact .inr tt45_ok
  · exact .inr tt46_ok
  · exact .inr tt47_ok
  · exact .inr tt49_ok
  · exact .inr tt50_ok
  · exact .inr tt51_ok
  · exact .inr tt53_ok
  · exact .inr tt54_ok
  · exact .inr tt55_ok
  · exact .inr tt56_ok
  · exact .inr tt57_ok
  · exact .inr tt58_ok
  · exact .inr tt59_ok
  · exact .inr tt61_ok
  · exact .inr tt62_ok
  · exact .inr tt63_ok
  · exact .inr tt64_ok
  · exact .inr tt65_ok
  · exact .inr tt66_ok
  · exact .inr tt68_ok
  · exact .inr tt70_ok
  · exact .inr tt71_ok
  · exact .inr tt72_ok
  · exact .inr tt73_ok
  · exact .inr tt74_ok
  · exact .inr tt75_ok
  · exact .inr tt76_ok
  · exact .inr tt77_ok
  · exact .inr tt78_ok
  · exact .inr tt79_ok
  · exact .inr tt80_ok
  · exact .inr tt81_ok
  · exact .inr tt83_ok
  · exact .inr tt84_ok
  · exact .inr tt85_ok
  · exact .inr tt87_ok
  · exact .inr tt88_ok
  · exact .inr tt89_ok
  · exact .inr tt90_ok
  · exact .inr tt91_ok
  · exact .inr tt92_ok
  · exact .inr tt93_ok
  · exact .inr tt94_ok
  · exact .inr tt95_ok
  · exact .inr tt96_ok
  · exact .inr tt97_ok
  · exact .inr tt98_ok
  · exact .inr tt99_ok
  · exact .inr tt100_ok
  · exact .inr tt101_ok
  · exact .inr tt103_ok
  · exact .inr tt104_ok
  · exact .inr tt105_ok
  · exact .inr tt106_ok
  · exact .inr tt107_ok
  · exact .inr tt109_ok
  · exact .inr tt111_ok
  · exact .inr tt112_ok
  · exact .inr tt113_ok
  · exact .inr tt114_ok
  · exact .inr tt115_ok
  · exact .inr tt116_ok
  · exact .inr tt117_ok
  · exact .inr tt118_ok
  · exact .inr tt119_ok
  · exact .inr tt121_ok
  · exact .inr tt122_ok
  · exact .inr tt123_ok
  · exact .inr tt124_ok
  · exact .inr tt125_ok
  · exact .inr tt126_ok
  · exact .inr tt127_ok
  · exact .inr tt128_ok
  · exact .inr tt129_ok
  · exact .inr tt130_ok
  · exact .inr tt131_ok
  · exact .inr tt132_ok
  · exact .inr tt133_ok
  · exact .inr tt134_ok
  · exact .inr tt135_ok
  · exact .inr tt136_ok
  · exact .inr tt137_ok
  · exact .inr tt139_ok
  · exact .inr tt140_ok
  · exact .inr tt141_ok
  · exact .inr tt142_ok
  · exact .inr tt143_ok
  · exact .inr tt144_ok
  · exact .inr tt145_ok
  · exact .inr tt146_ok
  · exact .inr tt147_ok
  · exact .inr tt148_ok
  · exact .inr tt149_ok
  · exact .inr tt150_ok
  · exact .inr tt151_ok
  · exact .inr tt152_ok
  · exact .inr tt153_ok
  · exact .inr tt155_ok
  · exact .inr tt156_ok
  · exact .inr tt157_ok
  · exact .inr tt158_ok
  · exact .inr tt159_ok
  · exact .inr tt160_ok
  · exact .inr tt161_ok
  · exact .inr tt162_ok
  · exact .inr tt163_ok
  · exact .inr tt164_ok
  · exact .inr tt166_ok
  · exact .inr tt167_ok
  · exact .inr tt168_ok
  · exact .inr tt169_ok
  · exact .inr tt177_ok
  · exact .inr tt178_ok
  · exact .inl rfl
end Go.Pv
/-! ### The program's calls, first part: the table of operations, that the program is alive, types of data. -/
namespace Go.Pv
open Go.Proofs
set_option maxRecDepth 1000000

def rowsLit : V := .agg [.str ⟨#[]⟩, .int .u8 0, .int .u8 0, .int .u8 0, .int .u8 0, .int .u8 0, .str ⟨#[76, 79, 65, 68]⟩, .int .u8 1, .int .u8 0, .int .u8 0, .int .u8 0, .int .u8 1, .str ⟨#[86, 76, 79, 65, 68]⟩, .int .u8 1, .int .u8 0, .int .u8 0, .int .u8 0, .int .u8 2, .str ⟨#[83, 84, 79, 82, 69]⟩, .int .u8 1, .int .u8 1, .int .u8 0, .int .u8 0, .int .u8 0, .str ⟨#[86, 83, 84, 79, 82, 69]⟩, .int .u8 1, .int .u8 2, .int .u8 0, .int .u8 0, .int .u8 0, .str ⟨#[76, 73, 84]⟩, .int .u8 6, .int .u8 0, .int .u8 0, .int .u8 0, .int .u8 1, .str ⟨#[86, 76, 73, 84]⟩, .int .u8 7, .int .u8 0, .int .u8 0, .int .u8 0, .int .u8 2, .str ⟨#[80, 85, 83, 72]⟩, .int .u8 0, .int .u8 0, .int .u8 0, .int .u8 0, .int .u8 0, .str ⟨#[80, 79, 80]⟩, .int .u8 0, .int .u8 0, .int .u8 1, .int .u8 0, .int .u8 1, .str ⟨#[86, 80, 79, 80]⟩, .int .u8 0, .int .u8 0, .int .u8 2, .int .u8 0, .int .u8 2, .str ⟨#[65, 68, 68]⟩, .int .u8 0, .int .u8 1, .int .u8 1, .int .u8 0, .int .u8 1, .str ⟨#[83, 85, 66]⟩, .int .u8 0, .int .u8 1, .int .u8 1, .int .u8 0, .int .u8 1, .str ⟨#[77, 85, 76]⟩, .int .u8 0, .int .u8 1, .int .u8 1, .int .u8 0, .int .u8 1, .str ⟨#[68, 73, 86]⟩, .int .u8 0, .int .u8 1, .int .u8 1, .int .u8 0, .int .u8 1, .str ⟨#[78, 69, 71]⟩, .int .u8 0, .int .u8 1, .int .u8 0, .int .u8 0, .int .u8 1, .str ⟨#[65, 66, 83]⟩, .int .u8 0, .int .u8 1, .int .u8 0, .int .u8 0, .int .u8 1, .str ⟨#[83, 81, 82, 84]⟩, .int .u8 0, .int .u8 1, .int .u8 0, .int .u8 0, .int .u8 1, .str ⟨#[83, 73, 78]⟩, .int .u8 0, .int .u8 1, .int .u8 0, .int .u8 0, .int .u8 1, .str ⟨#[67, 79, 83]⟩, .int .u8 0, .int .u8 1, .int .u8 0, .int .u8 0, .int .u8 1, .str ⟨#[83, 72, 73, 70, 84]⟩, .int .u8 2, .int .u8 1, .int .u8 0, .int .u8 0, .int .u8 1, .str ⟨#[86, 65, 68, 68]⟩, .int .u8 0, .int .u8 2, .int .u8 2, .int .u8 0, .int .u8 2, .str ⟨#[86, 83, 85, 66]⟩, .int .u8 0, .int .u8 2, .int .u8 2, .int .u8 0, .int .u8 2, .str ⟨#[86, 78, 69, 71]⟩, .int .u8 0, .int .u8 2, .int .u8 0, .int .u8 0, .int .u8 2, .str ⟨#[68, 79, 84]⟩, .int .u8 0, .int .u8 2, .int .u8 2, .int .u8 0, .int .u8 1, .str ⟨#[67, 82, 79, 83, 83]⟩, .int .u8 0, .int .u8 2, .int .u8 2, .int .u8 0, .int .u8 2, .str ⟨#[83, 67, 65, 76, 69]⟩, .int .u8 0, .int .u8 1, .int .u8 2, .int .u8 0, .int .u8 2, .str ⟨#[86, 83, 72, 73, 70, 84]⟩, .int .u8 2, .int .u8 2, .int .u8 0, .int .u8 0, .int .u8 2, .str ⟨#[76, 69, 78, 71, 84, 72]⟩, .int .u8 0, .int .u8 2, .int .u8 0, .int .u8 0, .int .u8 1, .str ⟨#[85, 78, 73, 84]⟩, .int .u8 0, .int .u8 2, .int .u8 0, .int .u8 0, .int .u8 2, .str ⟨#[67, 79, 77, 80]⟩, .int .u8 3, .int .u8 2, .int .u8 0, .int .u8 0, .int .u8 1, .str ⟨#[66, 85, 73, 76, 68]⟩, .int .u8 0, .int .u8 1, .int .u8 1, .int .u8 1, .int .u8 2, .str ⟨#[77, 88, 86]⟩, .int .u8 1, .int .u8 2, .int .u8 0, .int .u8 0, .int .u8 2, .str ⟨#[86, 88, 77]⟩, .int .u8 1, .int .u8 2, .int .u8 0, .int .u8 0, .int .u8 2, .str ⟨#[68, 73, 83, 80, 76, 65, 89]⟩, .int .u8 4, .int .u8 1, .int .u8 0, .int .u8 0, .int .u8 0, .str ⟨#[69, 78, 71, 73, 78, 69]⟩, .int .u8 4, .int .u8 1, .int .u8 0, .int .u8 0, .int .u8 0, .str ⟨#[84, 79, 82, 81, 85, 69]⟩, .int .u8 4, .int .u8 1, .int .u8 0, .int .u8 0, .int .u8 0, .str ⟨#[80, 72, 65, 83, 69]⟩, .int .u8 4, .int .u8 0, .int .u8 0, .int .u8 0, .int .u8 0, .str ⟨#[80, 72, 65, 83, 69, 73, 70]⟩, .int .u8 5, .int .u8 1, .int .u8 0, .int .u8 0, .int .u8 0, .str ⟨#[69, 78, 68]⟩, .int .u8 0, .int .u8 0, .int .u8 0, .int .u8 0, .int .u8 0]

@[reducible] def tW : Ty := .int .u16
@[reducible] def tI : Ty := .int .i64
@[reducible] def tInstr : Ty := .pair (.int .u8) (.pair tI (.pair tI (.pair (.pair tW tW) (.pair (.pair tW tW) (.pair tW tW)))))

theorem mixed : Tryz.prog.follows .mixedOrders = true := by kernel_rfl

theorem names_all : Tryz.prog.funcs.toList.all (fun fn => !(fn.name == "runtime.NumGoroutine")) = true := by kernel_rfl

theorem names (f : FuncId) (fn : Func) (h : Tryz.prog.funcs[f]? = some fn) : (fn.name == "runtime.NumGoroutine") = false := by
  have := List.all_eq_true.1 names_all fn (by simpa using Array.mem_of_getElem? h)
  simpa using this

theorem constOK {f : FuncId} {M : Mem} {spec : FuncId → Option (List V → Mem → Nat → (Eff → Option Eff) → Option Eff)} (hs : SpecOK Tryz.prog spec) {v : V}
    (h : callsE Tryz.prog tt spec 20 f [] M 0 (fun e => some e) = some { val := v }) : CallOK Tryz.prog f [] M { val := v } := by
  obtain ⟨eff, h1, h2⟩ := callsE_ok tt_ok mixed names hs 20 f [] M 0 _ _ h
  cases h2
  exact h1

theorem noSpec {R : Type} : SpecOK Tryz.prog (R := R) (fun _ => none) := fun _ _ h => by cases h

/-- a constant -/
def constE {R : Type} (v : V) : List V → Mem → Nat → (Eff → Option R) → Option R := fun args _ _ c => match args with
  | [] => c { val := v }
  | _ => none

theorem constE_ok {R : Type} {f : FuncId} {v : V} (h : ∀ M, CallOK Tryz.prog f [] M { val := v }) : ∀ args M id (c : Eff → Option R) r, constE v args M id c = some r → ∃ eff, CallOK Tryz.prog f args M eff ∧ c eff = some r := by
  intro args M id c r hr
  cases args with
  | nil => exact ⟨_, h M, hr⟩
  | cons _ _ => cases hr

theorem rowsOK (M : Mem) : CallOK Tryz.prog 84 [] M { val := rowsLit } := constOK noSpec (by kernel_rfl)

def specs0 (R : Type) (f : FuncId) : Option (List V → Mem → Nat → (Eff → Option R) → Option R) :=
  match f with
  | 84 => some (constE rowsLit)
  | _ => none

theorem specs0_ok (R : Type) : SpecOK Tryz.prog (specs0 R) := by
  intro f s hs
  unfold specs0 at hs
  split at hs
  · cases hs; exact constE_ok rowsOK
  · cases hs

noncomputable def call0 (R : Type) : CallE R := callsE Tryz.prog tt (specs0 R) 20
theorem call0_ok (R : Type) : CallsOK Tryz.prog (call0 R) := callsE_ok tt_ok mixed names (specs0_ok R) 20

/-- a function of the program by itself -/
theorem fnOK {callE : (R : Type) → CallE R} (hcall : ∀ R, CallsOK Tryz.prog (callE R)) {lss : List LoopSpec} {f : FuncId} {sa sr : Sig} {F : sa.den → Option (Shape.den (resShape 0 sr))}
    (h : ∀ x y, F x = some y → evalF Tryz.prog tt callE lss f sa sr x = some y) : FnOK Tryz.prog f sa sr F := fun x y hF => evalF_ok tt_ok mixed names hcall (h x y hF)

/-! ### Whether an operation is known: outside the known ones -/
noncomputable abbrev e20 (x : Int × Unit) := evalF Tryz.prog tt call0 [] 60 [.val (.int .u8)] [.val .bool] x
def outK (k : Int) : Bool := (decide (39 ≤ k) && decide (k ≤ 255)) || decide (k = 0)
def D20u (x : Sig.den [.val (.int .u8)]) : Bool := outK x.1
def F20u (_ : Sig.den [.val (.int .u8)]) : Shape.den (resShape 0 [.val .bool]) := (false, ())

theorem e20_eq (k : Int) : e20 (k, ()) = bif decide (k > 0) then some (decide (IntKind.i64.wrap k < 39), ()) else some (false, ()) := by kernel_rfl
theorem wrap_small {k : Int} (h1 : 0 ≤ k) (h2 : k ≤ 255) : IntKind.i64.wrap k = k := by
  unfold IntKind.wrap IntKind.bits IntKind.signed
  simp only [Bool.true_and]
  have e : (2 : Int) ^ 64 = 18446744073709551616 := by decide
  have e2 : (2 : Int) ^ (64 - 1) = 9223372036854775808 := by decide
  rw [e, e2]
  have : ¬ (k % 18446744073709551616 ≥ 9223372036854775808) := by omega
  simp only [decide_eq_true_eq, this, if_false]
  omega

theorem outK_cases {k : Int} (h : outK k = true) : (39 ≤ k ∧ k ≤ 255) ∨ k = 0 := by
  simpa only [outK, Bool.or_eq_true, Bool.and_eq_true, decide_eq_true_eq] using h

theorem e20_out {k : Int} (h : outK k = true) : e20 (k, ()) = some (false, ()) := by
  rw [e20_eq]
  rcases outK_cases h with ho | ho
  · have h1 : decide (k > 0) = true := decide_eq_true (by omega)
    have h2 : decide (k < 39) = false := decide_eq_false (by omega)
    rw [h1, cond_true, wrap_small (by omega) ho.2, h2]
  · subst ho; rfl

theorem known_out : FnOK Tryz.prog 60 [.val (.int .u8)] [.val .bool] fun x => bif D20u x then some (F20u x) else none := by
  refine fnOK (lss := []) call0_ok fun x y hF => ?_
  obtain ⟨k, ⟨⟩⟩ := x
  change (bif outK k then some (false, ()) else none) = some y at hF
  cases ho : outK k with
  | false => rw [ho] at hF; cases hF
  | true => rw [ho] at hF; exact (e20_out ho).trans hF

def specsU (R : Type) (f : FuncId) : Option (List V → Mem → Nat → (Eff → Option R) → Option R) :=
  match f with
  | 60 => some (specD [.val (.int .u8)] [.val .bool] D20u F20u)
  | _ => none

theorem flat_bool : ∀ s ∈ ([.val .bool] : Sig), s.flat = true := by intro s hs; simp at hs; subst hs; rfl

theorem count20 (fn : Func) (h : Tryz.prog.funcs[60]? = some fn) : fn.results.size = 1 := by
  have : (Tryz.prog.funcs[60]?).map (fun fn => fn.results.size) = some 1 := by kernel_rfl
  rw [h] at this; simpa using this
theorem specsU_ok (R : Type) : SpecOK Tryz.prog (specsU R) := by
  intro f s hs
  unfold specsU at hs
  split at hs
  · cases hs; exact specD_ok known_out flat_bool count20
  · cases hs

noncomputable def callU (R : Type) : CallE R := callsE Tryz.prog tt (specsU R) 20
theorem callU_ok (R : Type) : CallsOK Tryz.prog (callU R) := callsE_ok tt_ok mixed names (specsU_ok R) 20
end Go.Pv
/-! ### Decode, of the program and of the reference: what they compute, kind by kind. -/
namespace Go.Pv
open Go.Proofs
set_option maxRecDepth 1000000
set_option linter.unusedVariables false
@[reducible] def sOp : Sig := [.val (.int .u8)]
/-- what is known of operations of one kind -/
def specsD (D : Int → Bool) (q len : Int) (R : Type) (f : FuncId) : Option (List V → Mem → Nat → (Eff → Option R) → Option R) :=
  match f with
  | 60 => some (specD sOp [.val .bool] (fun x => D x.1) fun _ => (true, ()))
  | 65 => some (specD sOp [.val (.int .u8)] (fun x => D x.1) fun _ => (q, ()))
  | 61 => some (specD sOp [.val tI] (fun x => D x.1) fun _ => (len, ()))
  | _ => none
noncomputable def callD (D : Int → Bool) (q len : Int) (R : Type) : CallE R := callsE Tryz.prog tt (specsD D q len R) 20
@[reducible] def sDec : Sig := [.val (.slice tW), .val tI]
@[reducible] def rDec : Sig := [.agg tInstr, .val tI, .val tI]
noncomputable abbrev e15 (D : Int → Bool) (q len : Int) (l : List Int) (i : Int) := evalF Tryz.prog tt (callD D q len) [] 50 sDec rDec (l, i, ())
noncomputable abbrev e15u (l : List Int) (i : Int) := evalF Tryz.prog tt callU [] 50 sDec rDec (l, i, ())

abbrev Dr := Option (tInstr.den × Int × Int × Unit)
def w64 (n : Int) : Int := IntKind.i64.wrap n
def wd (l : List Int) (i : Int) : Int := l.getD i.toNat 0
def er (e : Int) : Dr := some ((0, 0, 0, (0, 0), (0, 0), (0, 0)), 0, e, ())
def rd (l : List Int) (i : Int) (k : Int → Dr) : Dr := bif inRange i l.length then k (wd l i) else none
def fin (e : Int) (x : tInstr.den) (nx : Int) : Dr := bif e != 0 then er e else some (x, nx, 0, ())

def word15 (l : List Int) (nx e : Int) (k : Int → Int → Int → Dr) : Dr := rd l nx fun w => bif decide (w > 32767) then k w (w64 (nx + 1)) 3 else k w (w64 (nx + 1)) e
def test15 (low high : Int) (n nx e : Int) (k : Int → Int → Int → Dr) : Dr := bif decide (n < low) then k n nx 3 else bif decide (n > high) then k n nx 3 else k n nx e
def num15 (low high : Int) (D : Int → Bool) (op : Int) (l : List Int) (nx e : Int) (k : Int → Int → Int → Dr) : Dr := word15 l nx e fun w nx e =>
  bif D op then bif (bif decide (low < 0) then decide (w64 w > high) else false) then
      (bif w64 (w64 w - 32767) == 0 then test15 low high (w64 (w64 w - 32767)) nx 3 k else test15 low high (w64 (w64 w - 32767)) nx e k)
    else test15 low high (w64 w) nx e k else none
def pre15 (D : Int → Bool) (len : Int) (l : List Int) (i : Int) (k : Int → Dr) : Dr :=
  bif decide (i < 0) then er 3 else bif decide (i ≥ (l.length : Int)) then er 3 else bif inRange i l.length then
    bif D (IntKind.u8.wrap (if 255 < wd l i then 255 else wd l i)) then bif inRange i l.length then bif D (IntKind.u8.wrap (wd l i)) then
      bif decide (w64 ((l.length : Int) - i) < len) then er 9 else bif D (IntKind.u8.wrap (wd l i)) then k (IntKind.u8.wrap (wd l i)) else none
    else none else none else none else none

def n15_0 (D : Int → Bool) (l : List Int) (i : Int) : Dr := pre15 D 1 l i fun op => some ((op, 0, 0, (0, 0), (0, 0), (0, 0)), w64 (i + 1), 0, ())
def n15_n (low high : Int) (D : Int → Bool) (l : List Int) (i : Int) : Dr := pre15 D 2 l i fun op => num15 low high D op l (w64 (i + 1)) 0 fun n nx e => fin e (op, n, 0, (0, 0), (0, 0), (0, 0)) nx
def n15_5 (D : Int → Bool) (l : List Int) (i : Int) : Dr := pre15 D 3 l i fun op => num15 0 31 D op l (w64 (i + 1)) 0 fun n nx e => num15 0 31 D op l nx e fun m nx e => fin e (op, n, m, (0, 0), (0, 0), (0, 0)) nx
def n15_6 (D : Int → Bool) (l : List Int) (i : Int) : Dr := pre15 D 3 l i fun op => word15 l (w64 (i + 1)) 0 fun a nx e => word15 l nx e fun b nx e => fin e (op, 0, 0, (a, b), (0, 0), (0, 0)) nx
def n15_7 (D : Int → Bool) (l : List Int) (i : Int) : Dr := pre15 D 7 l i fun op => word15 l (w64 (i + 1)) 0 fun a nx e => word15 l nx e fun b nx e => word15 l nx e fun c nx e => word15 l nx e fun d nx e =>
  word15 l nx e fun f nx e => word15 l nx e fun g nx e => fin e (op, 0, 0, (a, b), (c, d), (f, g)) nx

theorem e15_0 (D : Int → Bool) (l : List Int) (i : Int) : e15 D 0 1 l i = n15_0 D l i := by kernel_rfl
theorem e15_1 (D : Int → Bool) (l : List Int) (i : Int) : e15 D 1 2 l i = n15_n 0 2047 D l i := by kernel_rfl
theorem e15_2 (D : Int → Bool) (l : List Int) (i : Int) : e15 D 2 2 l i = n15_n (-56) 56 D l i := by kernel_rfl
theorem e15_3 (D : Int → Bool) (l : List Int) (i : Int) : e15 D 3 2 l i = n15_n 0 2 D l i := by kernel_rfl
theorem e15_4 (D : Int → Bool) (l : List Int) (i : Int) : e15 D 4 2 l i = n15_n 0 31 D l i := by kernel_rfl
theorem e15_5 (D : Int → Bool) (l : List Int) (i : Int) : e15 D 5 3 l i = n15_5 D l i := by kernel_rfl
theorem e15_6 (D : Int → Bool) (l : List Int) (i : Int) : e15 D 6 3 l i = n15_6 D l i := by kernel_rfl
theorem e15_7 (D : Int → Bool) (l : List Int) (i : Int) : e15 D 7 7 l i = n15_7 D l i := by kernel_rfl

def num16 (q low high : Int) (l : List Int) (i : Int) (k : Int → Dr) : Dr :=
  let fits (n : Int) : Dr := bif decide (n ≥ low) then bif !decide (n ≤ high) then er 3 else k n else er 3
  rd l i fun w => bif (q == 2) then (bif decide (w64 w ≥ 16384) then bif decide (w64 w < 32767) then fits (w64 (w64 w - 32767)) else fits (w64 w) else fits (w64 w)) else fits (w64 w)
def dbl16 (l : List Int) (i j : Int) (k : Int → Int → Dr) : Dr := rd l i fun a => rd l j fun b => bif decide (a > 32767) then er 3 else bif decide (b > 32767) then er 3 else k a b
def pre16 (D : Int → Bool) (len : Int) (l : List Int) (i : Int) (k : Int → Dr) : Dr :=
  bif decide (i < 0) then er 3 else bif decide (i ≥ (l.length : Int)) then er 3 else bif inRange i l.length then
    bif decide (wd l i < 1) then er 2 else bif inRange i l.length then bif decide (wd l i > 38) then er 2 else bif inRange i l.length then
      bif D (IntKind.u8.wrap (wd l i)) then bif D (IntKind.u8.wrap (wd l i)) then bif decide (w64 ((l.length : Int) - i) < len) then er 9 else k (IntKind.u8.wrap (wd l i))
    else none else none else none else none else none
def end16 (D : Int → Bool) (len : Int) (i : Int) (x : tInstr.den) : Dr := bif D x.1 then some (x, w64 (i + len), 0, ()) else none
def n16_0 (D : Int → Bool) (l : List Int) (i : Int) : Dr := pre16 D 1 l i fun op => end16 D 1 i (op, 0, 0, (0, 0), (0, 0), (0, 0))
def n16_n (q low high : Int) (D : Int → Bool) (l : List Int) (i : Int) : Dr := pre16 D 2 l i fun op => num16 q low high l (w64 (w64 (i + 1) + 0)) fun n => end16 D 2 i (op, n, 0, (0, 0), (0, 0), (0, 0))
def n16_5 (D : Int → Bool) (l : List Int) (i : Int) : Dr := pre16 D 3 l i fun op => num16 5 0 31 l (w64 (w64 (i + 1) + 0)) fun n => num16 5 0 31 l (w64 (w64 (i + 1) + 1)) fun m => end16 D 3 i (op, n, m, (0, 0), (0, 0), (0, 0))
def n16_6 (D : Int → Bool) (l : List Int) (i : Int) : Dr := pre16 D 3 l i fun op => dbl16 l (w64 (w64 (i + 1) + 0)) (w64 (w64 (i + 2) + 0)) fun a b => end16 D 3 i (op, 0, 0, (a, b), (0, 0), (0, 0))
def n16_7 (D : Int → Bool) (l : List Int) (i : Int) : Dr := pre16 D 7 l i fun op => dbl16 l (w64 (w64 (i + 1) + 0)) (w64 (w64 (i + 2) + 0)) fun a b =>
  dbl16 l (w64 (w64 (i + 1) + 2)) (w64 (w64 (i + 2) + 2)) fun c d => dbl16 l (w64 (w64 (i + 1) + 4)) (w64 (w64 (i + 2) + 4)) fun f g => end16 D 7 i (op, 0, 0, (a, b), (c, d), (f, g))
theorem e15u_eq (l : List Int) (i : Int) : e15u l i = bif decide (i < 0) then er 3 else bif decide (i ≥ (l.length : Int)) then er 3 else bif inRange i l.length then
    bif outK (IntKind.u8.wrap (if 255 < wd l i then 255 else wd l i)) then er 2 else none else none := by kernel_rfl
end Go.Pv
/-! ### Numbers that fit a word of the machine. -/
namespace Go.Pv
open Go.Proofs
theorem small_wrap {k : Int} (h1 : 0 ≤ k) (h2 : k ≤ 9000000000000000000) : IntKind.i64.wrap k = k := by
  unfold IntKind.wrap IntKind.bits IntKind.signed
  simp only [Bool.true_and]
  have e : (2 : Int) ^ 64 = 18446744073709551616 := by decide
  have e2 : (2 : Int) ^ (64 - 1) = 9223372036854775808 := by decide
  rw [e, e2]
  have : ¬ (k % 18446744073709551616 ≥ 9223372036854775808) := by omega
  simp only [decide_eq_true_eq, this, if_false]
  omega

end Go.Pv
/-! ### Decode: the program's and the reference's answer alike, whatever the words and the index. -/
namespace Go.Pv
open Go.Proofs

/-- words -/
def Words (l : List Int) : Prop := ∀ w ∈ l, 0 ≤ w ∧ w ≤ 65535
abbrev big : Nat := 9223372036854775807

theorem w64_small {k : Int} (h1 : -9000000000000000000 ≤ k) (h2 : k ≤ 9223372036854775807) : w64 k = k := by
  unfold w64 IntKind.wrap IntKind.bits IntKind.signed
  simp only [Bool.true_and]
  have e : (2 : Int) ^ 64 = 18446744073709551616 := by decide
  have e2 : (2 : Int) ^ (64 - 1) = 9223372036854775808 := by decide
  rw [e, e2]
  simp only [decide_eq_true_eq]
  split <;> omega

theorem wd_nonneg {l : List Int} (hl : Words l) (j : Int) : 0 ≤ wd l j ∧ wd l j ≤ 65535 := by
  unfold wd
  by_cases h : j.toNat < l.length
  · have : l.getD j.toNat 0 = l[j.toNat] := by simp [List.getD, h]
    rw [this]
    exact hl _ (List.getElem_mem h)
  · have : l.getD j.toNat 0 = 0 := by simp [List.getD, Nat.not_lt.1 h]
    rw [this]; omega

theorem rd_in {l : List Int} {j : Int} {k : Int → Dr} (h1 : 0 ≤ j) (h2 : j < l.length) : rd l j k = k (wd l j) := by
  have : inRange j l.length = true := by simp [inRange]; omega
  unfold rd; rw [this]; rfl

theorem fin3 {x : tInstr.den} {nx : Int} : fin 3 x nx = er 3 := rfl
theorem fin0 {x : tInstr.den} {nx : Int} : fin 0 x nx = some (x, nx, 0, ()) := rfl

def mean (q low high w : Int) : Option Int :=
  if q = 2 ∧ 16384 ≤ w ∧ w < 32767 then (if low ≤ w - 32767 ∧ w - 32767 ≤ high then some (w - 32767) else none)
  else if low ≤ w ∧ w ≤ high then some w else none

def KB (q low high : Int) : Prop := (q = 1 ∧ low = 0 ∧ high = 2047) ∨ (q = 2 ∧ low = -56 ∧ high = 56) ∨ (q = 3 ∧ low = 0 ∧ high = 2) ∨ (q = 4 ∧ low = 0 ∧ high = 31) ∨ (q = 5 ∧ low = 0 ∧ high = 31)

section
variable {l : List Int} {D : Int → Bool} {op i j e q low high : Int}

theorem num16_in (hl : Words l) (h1 : 0 ≤ j) (h2 : j < l.length) {k : Int → Dr} : num16 q low high l j k = match mean q low high (wd l j) with
    | some n => k n
    | none => er 3 := by
  unfold num16 mean
  rw [rd_in h1 h2]
  obtain ⟨r1, r2⟩ := wd_nonneg hl j
  generalize wd l j = w at *
  have e1 : w64 w = w := w64_small (by omega) (by omega)
  have e2 : w64 (w - 32767) = w - 32767 := w64_small (by omega) (by omega)
  simp only [e1, e2, Bool.cond_eq_ite, beq_iff_eq, decide_eq_true_eq, Bool.not_eq_true', decide_eq_false_iff_not, ge_iff_le]
  by_cases c : q = 2 ∧ 16384 ≤ w ∧ w < 32767
  · rw [if_pos c, if_pos c.1, if_pos c.2.1, if_pos c.2.2]
    by_cases d : low ≤ w - 32767 ∧ w - 32767 ≤ high
    · rw [if_pos d, if_pos d.1, if_neg (by omega)]
    · rw [if_neg d]
      try dsimp only
      (repeat' split) <;> first | rfl | (exfalso; omega)
  · rw [if_neg c]
    by_cases d : low ≤ w ∧ w ≤ high
    · rw [if_pos d]
      try dsimp only
      (repeat' split) <;> first | rfl | (exfalso; omega)
    · rw [if_neg d]
      try dsimp only
      (repeat' split) <;> first | rfl | (exfalso; omega)

theorem test15_eq {n nx : Int} {k : Int → Int → Int → Dr} : test15 low high n nx e k = if low ≤ n ∧ n ≤ high then k n nx e else k n nx 3 := by
  unfold test15
  simp only [Bool.cond_eq_ite, decide_eq_true_eq]
  repeat' split
  all_goals first | rfl | (exfalso; omega)

theorem num15_in (hb : KB q low high) (hl : Words l) (hlen : l.length ≤ big) (hD : D op = true) (h1 : 0 ≤ j) (h2 : j < l.length) {k : Int → Int → Int → Dr} : ∃ m, num15 low high D op l j e k = match mean q low high (wd l j) with
    | some n => k n (j + 1) e
    | none => k m (j + 1) 3 := by
  unfold num15 word15
  rw [rd_in h1 h2]
  obtain ⟨r1, r2⟩ := wd_nonneg hl j
  have e0 : w64 (j + 1) = j + 1 := w64_small (by omega) (by unfold big at hlen; omega)
  rw [e0]
  generalize wd l j = w at *
  have e1 : w64 w = w := w64_small (by omega) (by omega)
  have e2 : w64 (w - 32767) = w - 32767 := w64_small (by omega) (by omega)
  have e3 : (bif decide (low < 0) then decide (w > high) else false) = decide (low < 0 ∧ w > high) := by by_cases q1 : low < 0 <;> simp [q1]
  simp only [e1, e2, e3, hD, cond_true, test15_eq, mean]
  simp only [Bool.cond_eq_ite, beq_iff_eq, decide_eq_true_eq]
  refine ⟨if low < 0 ∧ w > high then w - 32767 else w, ?_⟩
  by_cases c : q = 2 ∧ 16384 ≤ w ∧ w < 32767
  · simp only [if_pos c]
    have hq : low = -56 ∧ high = 56 := by rcases hb with h | h | h | h | h <;> omega
    obtain ⟨rfl, rfl⟩ := hq
    simp only [if_pos (show (-56 : Int) < 0 ∧ w > 56 by omega)]
    by_cases d : -56 ≤ w - 32767 ∧ w - 32767 ≤ 56
    · simp only [if_pos d]
      try dsimp only
      (repeat' split) <;> first | rfl | (exfalso; omega)
    · simp only [if_neg d]
      try dsimp only
      (repeat' split) <;> first | rfl | (exfalso; omega)
  · simp only [if_neg c]
    have hx : w ≤ 32767 ∨ ¬ (low ≤ w ∧ w ≤ high) := by rcases hb with h | h | h | h | h <;> omega
    have hy : low < 0 → q = 2 ∧ low = -56 ∧ high = 56 := by rcases hb with h | h | h | h | h <;> omega
    by_cases d : low ≤ w ∧ w ≤ high
    · simp only [if_pos d]
      try dsimp only
      (repeat' split) <;> first | rfl | (exfalso; omega)
    · simp only [if_neg d]
      try dsimp only
      (repeat' split) <;> first | rfl | (exfalso; omega)
end

/-! ### The answer -/
def kinds : List Nat := [0, 1, 1, 1, 1, 6, 7, 0, 0, 0, 0, 0, 0, 0, 0, 0, 0, 0, 0, 2, 0, 0, 0, 0, 0, 0, 2, 0, 0, 3, 0, 1, 1, 4, 4, 4, 4, 5, 0]
def kindOf (w : Int) : Nat := kinds.getD w.toNat 0
def lens : List Int := [1, 2, 2, 2, 2, 3, 3, 7]
def lenOfK (q : Nat) : Int := lens.getD q 0
def highs : List Int := [0, 2047, 56, 2, 31, 31]
def DK (q : Nat) (k : Int) : Bool := decide (1 ≤ k) && decide (k ≤ 38) && Nat.beq (kindOf k) q

def numD (q : Nat) (low high : Int) (l : List Int) (i : Int) (w : Int) : Dr := match mean q low high (wd l (i + 1)) with
  | some n => some ((w, n, 0, (0, 0), (0, 0), (0, 0)), i + 2, 0, ())
  | none => er 3
/-- an instruction of kind q, all of whose words are there -/
def decK (q : Nat) (l : List Int) (i : Int) (w : Int) : Dr := match q with
  | 0 => some ((w, 0, 0, (0, 0), (0, 0), (0, 0)), i + 1, 0, ())
  | 1 => numD 1 0 2047 l i w
  | 2 => numD 2 (-56) 56 l i w
  | 3 => numD 3 0 2 l i w
  | 4 => numD 4 0 31 l i w
  | 5 => match mean 5 0 31 (wd l (i + 1)) with
    | some n => match mean 5 0 31 (wd l (i + 2)) with
      | some m => some ((w, n, m, (0, 0), (0, 0), (0, 0)), i + 3, 0, ())
      | none => er 3
    | none => er 3
  | 6 => if wd l (i + 1) ≤ 32767 ∧ wd l (i + 2) ≤ 32767 then some ((w, 0, 0, (wd l (i + 1), wd l (i + 2)), (0, 0), (0, 0)), i + 3, 0, ()) else er 3
  | _ => if wd l (i + 1) ≤ 32767 ∧ wd l (i + 2) ≤ 32767 ∧ wd l (i + 3) ≤ 32767 ∧ wd l (i + 4) ≤ 32767 ∧ wd l (i + 5) ≤ 32767 ∧ wd l (i + 6) ≤ 32767 then
      some ((w, 0, 0, (wd l (i + 1), wd l (i + 2)), (wd l (i + 3), wd l (i + 4)), (wd l (i + 5), wd l (i + 6))), i + 7, 0, ()) else er 3
def decA (l : List Int) (i : Int) : Dr :=
  if i < 0 ∨ (l.length : Int) ≤ i then er 3 else
  if wd l i < 1 ∨ 38 < wd l i then er 2 else
  if (l.length : Int) - i < lenOfK (kindOf (wd l i)) then er 9 else decK (kindOf (wd l i)) l i (wd l i)

theorem u8_small {k : Int} (h1 : 0 ≤ k) (h2 : k ≤ 255) : IntKind.u8.wrap k = k := by
  unfold IntKind.wrap IntKind.bits IntKind.signed
  simp only [Bool.false_and]
  have e : (2 : Int) ^ 8 = 256 := by decide
  rw [e]
  simp only [Bool.false_eq_true, if_false]
  omega

structure Dcase (q : Nat) (l : List Int) (i : Int) : Prop where
  words : Words l
  len : l.length ≤ big
  lo : 0 ≤ i
  hi : i < l.length
  k : DK q (wd l i) = true

namespace Dcase
variable {q : Nat} {l : List Int} {i : Int}
theorem kn (c : Dcase q l i) : (1 ≤ wd l i ∧ wd l i ≤ 38) ∧ kindOf (wd l i) = q := by
  have := c.k
  simp only [DK, Bool.and_eq_true, decide_eq_true_eq] at this
  exact ⟨this.1, Nat.eq_of_beq_eq_true this.2⟩
theorem ans (c : Dcase q l i) {len : Int} (hl : lenOfK q = len) : decA l i = if (l.length : Int) - i < len then er 9 else decK q l i (wd l i) := by
  have h1 := c.lo; have h2 := c.hi; obtain ⟨h3, h4⟩ := c.kn
  unfold decA
  rw [if_neg (by omega), if_neg (by omega), h4, hl]
theorem rng (c : Dcase q l i) : inRange i l.length = true := by have := c.lo; have := c.hi; simp [inRange]; omega
theorem wrapw (c : Dcase q l i) : IntKind.u8.wrap (wd l i) = wd l i := by obtain ⟨h, _⟩ := c.kn; exact u8_small (by omega) (by omega)
theorem pre15 (c : Dcase q l i) {len : Int} (_hl : lenOfK q = len) {k : Int → Dr} : Go.Pv.pre15 (DK q) len l i k = if (l.length : Int) - i < len then er 9 else k (wd l i) := by
  have h1 := c.lo; have h2 := c.hi; obtain ⟨h3, h4⟩ := c.kn; have h5 := c.len
  unfold Go.Pv.pre15
  have e1 : (if 255 < wd l i then 255 else wd l i) = wd l i := if_neg (by omega)
  have e2 : w64 ((l.length : Int) - i) = (l.length : Int) - i := w64_small (by omega) (by unfold big at h5; omega)
  have e3 : decide (i < 0) = false := decide_eq_false (by omega)
  have e4 : decide (i ≥ (l.length : Int)) = false := decide_eq_false (by omega)
  simp only [e1, e2, e3, e4, c.rng, c.wrapw, c.k, Bool.cond_eq_ite, decide_eq_true_eq, Bool.false_eq_true, if_true, if_false]
theorem pre16 (c : Dcase q l i) {len : Int} (_hl : lenOfK q = len) {k : Int → Dr} : Go.Pv.pre16 (DK q) len l i k = if (l.length : Int) - i < len then er 9 else k (wd l i) := by
  have h1 := c.lo; have h2 := c.hi; obtain ⟨h3, h4⟩ := c.kn; have h5 := c.len
  unfold Go.Pv.pre16
  have e2 : w64 ((l.length : Int) - i) = (l.length : Int) - i := w64_small (by omega) (by unfold big at h5; omega)
  have e3 : decide (i < 0) = false := decide_eq_false (by omega)
  have e4 : decide (i ≥ (l.length : Int)) = false := decide_eq_false (by omega)
  have e5 : decide (wd l i < 1) = false := decide_eq_false (by omega)
  have e6 : decide (wd l i > 38) = false := decide_eq_false (by omega)
  simp only [e2, e3, e4, e5, e6, c.rng, c.wrapw, c.k, Bool.cond_eq_ite, decide_eq_true_eq, Bool.false_eq_true, if_true, if_false]
theorem ix (c : Dcase q l i) {m : Int} (h0 : 0 ≤ m) (h1 : i + m ≤ l.length) : w64 (i + m) = i + m := by
  have h2 := c.lo; have h5 := c.len; exact w64_small (by omega) (by unfold big at h5; omega)
theorem last (c : Dcase q l i) {m : Int} (h0 : 0 ≤ m) (h1 : i + m ≤ l.length) {x : tInstr.den} (hx : x.1 = wd l i) : end16 (DK q) m i x = some (x, i + m, 0, ()) := by
  unfold end16; rw [hx, c.k, c.ix h0 h1]; rfl
end Dcase

section
variable {q : Nat} {l : List Int} {i : Int}
theorem dec15_0 (c : Dcase 0 l i) : n15_0 (DK 0) l i = decA l i := by
  rw [c.ans (len := 1) rfl]; unfold n15_0; rw [c.pre15 (len := 1) rfl]
  split
  · rfl
  · rename_i h
    rw [c.ix (by omega) (by have := c.hi; omega)]; rfl
theorem dec16_0 (c : Dcase 0 l i) : n16_0 (DK 0) l i = decA l i := by
  rw [c.ans (len := 1) rfl]; unfold n16_0; rw [c.pre16 (len := 1) rfl]
  split
  · rfl
  · rename_i h
    rw [c.last (by omega) (by have := c.hi; omega) rfl]; rfl

theorem dec15_n {low high : Int} (hb : KB (q : Int) low high) (hl : lenOfK q = 2) (hd : decK q l i (wd l i) = numD q low high l i (wd l i)) (c : Dcase q l i) : n15_n low high (DK q) l i = decA l i := by
  rw [c.ans hl, hd]; unfold n15_n; rw [c.pre15 hl]
  split
  · rfl
  · rename_i h
    have h0 := c.lo
    rw [c.ix (by omega) (by omega)]
    obtain ⟨m, e⟩ := num15_in (D := DK q) (op := wd l i) (e := 0) (j := i + 1) hb c.words c.len c.k (by omega) (by omega) (k := fun n nx e => fin e (wd l i, n, 0, (0, 0), (0, 0), (0, 0)) nx)
    rw [e]; unfold numD
    split
    · rw [fin0]; congr 3; omega
    · rfl
theorem dec16_n {low high : Int} (hl : lenOfK q = 2) (hd : decK q l i (wd l i) = numD q low high l i (wd l i)) (c : Dcase q l i) : n16_n q low high (DK q) l i = decA l i := by
  rw [c.ans hl, hd]; unfold n16_n; rw [c.pre16 hl]
  split
  · rfl
  · rename_i h
    have h0 := c.lo
    rw [c.ix (by omega) (by omega), Int.add_zero, c.ix (by omega) (by omega), num16_in c.words (by omega) (by omega)]
    unfold numD
    split
    · rw [c.last (by omega) (by omega) rfl]
    · rfl
theorem dec15_5 (c : Dcase 5 l i) : n15_5 (DK 5) l i = decA l i := by
  rw [c.ans (len := 3) rfl]; unfold n15_5; rw [c.pre15 (len := 3) rfl]
  split
  · rfl
  · rename_i h
    have h0 := c.lo
    have h' : ¬ ((l.length : Int) - i < 3) := h
    rw [c.ix (by omega) (by omega)]
    obtain ⟨m, e⟩ := num15_in (q := 5) (low := 0) (high := 31) (D := DK 5) (op := wd l i) (e := 0) (j := i + 1) (by unfold KB; omega) c.words c.len c.k (by omega) (by omega)
      (k := fun n nx e => num15 0 31 (DK 5) (wd l i) l nx e fun m nx e => fin e (wd l i, n, m, (0, 0), (0, 0), (0, 0)) nx)
    rw [e]
    have key : ∀ (n e : Int), ∃ m, (num15 0 31 (DK 5) (wd l i) l (i + 1 + 1) e fun m nx e => fin e (wd l i, n, m, (0, 0), (0, 0), (0, 0)) nx) = match mean 5 0 31 (wd l (i + 1 + 1)) with
        | some k => fin e (wd l i, n, k, (0, 0), (0, 0), (0, 0)) (i + 1 + 1 + 1)
        | none => fin 3 (wd l i, n, m, (0, 0), (0, 0), (0, 0)) (i + 1 + 1 + 1) := fun n e =>
      num15_in (q := 5) (low := 0) (high := 31) (D := DK 5) (op := wd l i) (e := e) (j := i + 1 + 1) (by unfold KB; omega) c.words c.len c.k (by omega) (by omega) (k := fun m nx e => fin e (wd l i, n, m, (0, 0), (0, 0), (0, 0)) nx)
    have e2 : i + 1 + 1 = i + 2 := by omega
    have e3 : i + 2 + 1 = i + 3 := by omega
    unfold decK
    simp only
    split
    · rename_i n _
      obtain ⟨m2, h2⟩ := key n 0
      rw [h2, e2, e3]
      split
      · rfl
      · rfl
    · obtain ⟨m2, h2⟩ := key m 3
      rw [h2]
      split
      · rfl
      · rfl
theorem dec16_5 (c : Dcase 5 l i) : n16_5 (DK 5) l i = decA l i := by
  rw [c.ans (len := 3) rfl]; unfold n16_5; rw [c.pre16 (len := 3) rfl]
  split
  · rfl
  · rename_i h
    have h0 := c.lo
    have h' : ¬ ((l.length : Int) - i < 3) := h
    rw [c.ix (m := 1) (by omega) (by omega), Int.add_zero, c.ix (m := 1) (by omega) (by omega), Int.add_assoc, c.ix (m := 1 + 1) (by omega) (by omega), num16_in c.words (by omega) (by omega)]
    unfold decK
    simp only
    split
    · rw [num16_in c.words (by omega) (by omega)]
      have : i + (1 + 1) = i + 2 := by omega
      rw [this]
      split
      · rw [c.last (by omega) (by omega) rfl]
      · rfl
    · rfl

theorem word15_in (_hw : Words l) (hlen : l.length ≤ big) {j e : Int} (h1 : 0 ≤ j) (h2 : j < l.length) {k : Int → Int → Int → Dr} : word15 l j e k = k (wd l j) (j + 1) (if wd l j ≤ 32767 then e else 3) := by
  unfold word15
  rw [rd_in h1 h2, w64_small (by omega) (by unfold big at hlen; omega)]
  by_cases h : wd l j ≤ 32767
  · rw [if_pos h, decide_eq_false (by omega)]; rfl
  · rw [if_neg h, decide_eq_true (by omega)]; rfl
theorem dbl16_in {j j' : Int} (h1 : 0 ≤ j) (h2 : j < l.length) (h3 : 0 ≤ j') (h4 : j' < l.length) {k : Int → Int → Dr} : dbl16 l j j' k = if wd l j ≤ 32767 ∧ wd l j' ≤ 32767 then k (wd l j) (wd l j') else er 3 := by
  unfold dbl16
  rw [rd_in h1 h2, rd_in h3 h4]
  simp only [Bool.cond_eq_ite, decide_eq_true_eq]
  (repeat' split) <;> first | rfl | (exfalso; omega)
theorem dec15_6 (c : Dcase 6 l i) : n15_6 (DK 6) l i = decA l i := by
  rw [c.ans (len := 3) rfl]; unfold n15_6; rw [c.pre15 (len := 3) rfl]
  split
  · rfl
  · rename_i h
    have h0 := c.lo
    have h' : ¬ ((l.length : Int) - i < 3) := h
    rw [c.ix (by omega) (by omega), word15_in c.words c.len (by omega) (by omega), word15_in c.words c.len (by omega) (by omega)]
    have e2 : i + 1 + 1 = i + 2 := by omega
    have e3 : i + 2 + 1 = i + 3 := by omega
    rw [e2, e3]
    unfold decK
    simp only
    (repeat' split) <;> first | rfl | (exfalso; omega)
theorem dec16_6 (c : Dcase 6 l i) : n16_6 (DK 6) l i = decA l i := by
  rw [c.ans (len := 3) rfl]; unfold n16_6; rw [c.pre16 (len := 3) rfl]
  split
  · rfl
  · rename_i h
    have h0 := c.lo
    have h' : ¬ ((l.length : Int) - i < 3) := h
    rw [c.ix (m := 1) (by omega) (by omega), c.ix (m := 2) (by omega) (by omega), Int.add_zero, Int.add_zero, c.ix (m := 1) (by omega) (by omega), c.ix (m := 2) (by omega) (by omega), dbl16_in (by omega) (by omega) (by omega) (by omega)]
    unfold decK
    simp only
    split
    · rw [c.last (by omega) (by omega) rfl]
    · rfl
theorem dec15_7 (c : Dcase 7 l i) : n15_7 (DK 7) l i = decA l i := by
  rw [c.ans (len := 7) rfl]; unfold n15_7; rw [c.pre15 (len := 7) rfl]
  split
  · rfl
  · rename_i h
    have h0 := c.lo
    have h' : ¬ ((l.length : Int) - i < 7) := h
    rw [c.ix (by omega) (by omega)]
    iterate 6 rw [word15_in c.words c.len (by omega) (by omega)]
    have e2 : i + 1 + 1 = i + 2 := by omega
    have e3 : i + 2 + 1 = i + 3 := by omega
    have e4 : i + 3 + 1 = i + 4 := by omega
    have e5 : i + 4 + 1 = i + 5 := by omega
    have e6 : i + 5 + 1 = i + 6 := by omega
    have e7 : i + 6 + 1 = i + 7 := by omega
    rw [e2, e3, e4, e5, e6, e7]
    unfold decK
    simp only
    by_cases hh : wd l (i + 1) ≤ 32767 ∧ wd l (i + 2) ≤ 32767 ∧ wd l (i + 3) ≤ 32767 ∧ wd l (i + 4) ≤ 32767 ∧ wd l (i + 5) ≤ 32767 ∧ wd l (i + 6) ≤ 32767
    · rw [if_pos hh]
      obtain ⟨a1, a2, a3, a4, a5, a6⟩ := hh
      rw [if_pos a1, if_pos a2, if_pos a3, if_pos a4, if_pos a5, if_pos a6]; rfl
    · rw [if_neg hh]
      (repeat' split) <;> first | rfl | (exfalso; omega)
theorem dec16_7 (c : Dcase 7 l i) : n16_7 (DK 7) l i = decA l i := by
  rw [c.ans (len := 7) rfl]; unfold n16_7; rw [c.pre16 (len := 7) rfl]
  split
  · rfl
  · rename_i h
    have h0 := c.lo
    have h' : ¬ ((l.length : Int) - i < 7) := h
    rw [c.ix (m := 1) (by omega) (by omega), c.ix (m := 2) (by omega) (by omega), Int.add_zero, Int.add_zero, Int.add_assoc i 1 2, Int.add_assoc i 2 2, Int.add_assoc i 1 4, Int.add_assoc i 2 4,
      c.ix (m := 1) (by omega) (by omega), c.ix (m := 2) (by omega) (by omega), c.ix (m := 1 + 2) (by omega) (by omega), c.ix (m := 2 + 2) (by omega) (by omega), c.ix (m := 1 + 4) (by omega) (by omega), c.ix (m := 2 + 4) (by omega) (by omega)]
    have e3 : i + (1 + 2) = i + 3 := by omega
    have e4 : i + (2 + 2) = i + 4 := by omega
    have e5 : i + (1 + 4) = i + 5 := by omega
    have e6 : i + (2 + 4) = i + 6 := by omega
    rw [e3, e4, e5, e6]
    iterate 3 rw [dbl16_in (by omega) (by omega) (by omega) (by omega)]
    rw [c.last (by omega) (by omega) rfl]
    unfold decK
    simp only
    (repeat' split) <;> first | rfl | (exfalso; omega)
end
end Go.Pv
/-! ### Decode: what is known of the two functions, for all words and indices. -/
namespace Go.Pv
open Go.Proofs
set_option maxRecDepth 1000000

/-! ### Operations, one by one -/
noncomputable abbrev k20 (k : Int) := evalF Tryz.prog tt call0 [] 60 sOp [.val .bool] (k, ())
noncomputable abbrev k23 (k : Int) := evalF Tryz.prog tt call0 [] 65 sOp [.val (.int .u8)] (k, ())
noncomputable abbrev k17 (k : Int) := evalF Tryz.prog tt call0 [] 61 sOp [.val tI] (k, ())
def isB (o : Option (Bool × Unit)) (b : Bool) : Bool := match o with
  | some y => y.1 == b
  | none => false
def isI (o : Option (Int × Unit)) (b : Int) : Bool := match o with
  | some y => y.1 == b
  | none => false
theorem isB_eq {o : Option (Bool × Unit)} {b : Bool} (h : isB o b = true) : o = some (b, ()) := by
  cases o with
  | none => cases h
  | some y => obtain ⟨y, ⟨⟩⟩ := y; simp only [isB, beq_iff_eq] at h; rw [h]
theorem isI_eq {o : Option (Int × Unit)} {b : Int} (h : isI o b = true) : o = some (b, ()) := by
  cases o with
  | none => cases h
  | some y => obtain ⟨y, ⟨⟩⟩ := y; simp only [isI, beq_iff_eq] at h; rw [h]
def each38 (p : Int → Bool) : Bool := (List.range 38).all fun n => p ((n + 1 : Nat) : Int)
theorem each38_at {p : Int → Bool} (h : each38 p = true) {k : Int} (h1 : 1 ≤ k) (h2 : k ≤ 38) : p k = true := by
  have := List.all_eq_true.1 h (k.toNat - 1) (List.mem_range.2 (by omega))
  have e : ((k.toNat - 1 + 1 : Nat) : Int) = k := by omega
  rwa [e] at this
theorem t20 : each38 (fun k => isB (k20 k) true) = true := by kernel_rfl
theorem t23 : each38 (fun k => isI (k23 k) (kindOf k)) = true := by kernel_rfl
theorem t17 : each38 (fun k => isI (k17 k) (lenOfK (kindOf k))) = true := by kernel_rfl
theorem DK_iff {q : Nat} {k : Int} : DK q k = true ↔ (1 ≤ k ∧ k ≤ 38) ∧ kindOf k = q := by
  simp only [DK, Bool.and_eq_true, decide_eq_true_eq]
  constructor
  · rintro ⟨h, h2⟩; exact ⟨h, Nat.eq_of_beq_eq_true h2⟩
  · rintro ⟨h, rfl⟩; exact ⟨h, Nat.beq_refl _⟩

theorem onD {sr : Sig} {f : FuncId} {q : Nat} {c : Shape.den (resShape 0 sr)} (h : ∀ k : Int, DK q k = true → evalF Tryz.prog tt call0 [] f sOp sr (k, ()) = some c) :
    FnOK Tryz.prog f sOp sr fun x => bif DK q x.1 then some c else none := by
  refine fnOK (lss := []) call0_ok fun x y hF => ?_
  obtain ⟨k, ⟨⟩⟩ := x
  change (bif DK q k then some c else none) = some y at hF
  cases ho : DK q k with
  | false => rw [ho] at hF; cases hF
  | true => rw [ho] at hF; exact (h k ho).trans hF

theorem count23 (fn : Func) (h : Tryz.prog.funcs[65]? = some fn) : fn.results.size = 1 := by
  have : (Tryz.prog.funcs[65]?).map (fun fn => fn.results.size) = some 1 := by kernel_rfl
  rw [h] at this; simpa using this
theorem count17 (fn : Func) (h : Tryz.prog.funcs[61]? = some fn) : fn.results.size = 1 := by
  have : (Tryz.prog.funcs[61]?).map (fun fn => fn.results.size) = some 1 := by kernel_rfl
  rw [h] at this; simpa using this
theorem flat_u8 : ∀ s ∈ ([.val (.int .u8)] : Sig), s.flat = true := by intro s hs; simp at hs; subst hs; rfl
theorem flat_int : ∀ s ∈ ([.val tI] : Sig), s.flat = true := by intro s hs; simp at hs; subst hs; rfl

theorem specsD_ok {q : Nat} {q' len : Int} (hq : (q : Int) = q') (hlen : lenOfK q = len) (R : Type) : SpecOK Tryz.prog (specsD (DK q) q' len R) := by
  subst hq; subst hlen
  intro f s hs
  unfold specsD at hs
  split at hs
  · cases hs; exact specD_ok (onD fun k hk => isB_eq (each38_at t20 (DK_iff.1 hk).1.1 (DK_iff.1 hk).1.2)) flat_bool count20
  · cases hs; exact specD_ok (onD fun k hk => by have := isI_eq (each38_at t23 (DK_iff.1 hk).1.1 (DK_iff.1 hk).1.2); rw [(DK_iff.1 hk).2] at this; exact this) flat_u8 count23
  · cases hs; exact specD_ok (onD fun k hk => by have := isI_eq (each38_at t17 (DK_iff.1 hk).1.1 (DK_iff.1 hk).1.2); rw [(DK_iff.1 hk).2] at this; exact this) flat_int count17
  · cases hs

theorem callD_ok {q : Nat} {q' len : Int} (hq : (q : Int) = q') (hlen : lenOfK q = len) (R : Type) : CallsOK Tryz.prog (callD (DK q) q' len R) := callsE_ok tt_ok mixed names (specsD_ok hq hlen R) 20

/-! ### The two functions -/
/-- the input: words, an index -/
def inOK (l : List Int) : Prop := Words l ∧ l.length ≤ big
open Classical in
noncomputable def FDec (x : Sig.den sDec) : Option (Shape.den (resShape 0 rDec)) := if inOK x.1 then decA x.1 x.2.1 else none

theorem FDec_in {l : List Int} (hl : inOK l) (i : Int) : FDec (l, i, ()) = decA l i := if_pos hl
theorem FDec_out {l : List Int} (hl : ¬ inOK l) (i : Int) : FDec (l, i, ()) = none := if_neg hl

theorem one15 {q : Nat} {q' len : Int} {l : List Int} {i : Int} (hq : (q : Int) = q') (hlen : lenOfK q = len) {y : Shape.den (resShape 0 rDec)} (h : e15 (DK q) q' len l i = some y) :
    ∃ callE : (R : Type) → CallE R, (∀ R, CallsOK Tryz.prog (callE R)) ∧ evalF Tryz.prog tt callE [] 50 sDec rDec (l, i, ()) = some y := ⟨_, callD_ok hq hlen, h⟩
theorem kind_lt {k : Int} (h1 : 1 ≤ k) (h2 : k ≤ 38) : kindOf k < 8 := by
  have : each38 (fun k => decide (kindOf k < 8)) = true := by decide
  exact of_decide_eq_true (each38_at this h1 h2)

theorem some15 {l : List Int} (hl : inOK l) {i : Int} {y : Shape.den (resShape 0 rDec)} (h : decA l i = some y) :
    ∃ callE : (R : Type) → CallE R, (∀ R, CallsOK Tryz.prog (callE R)) ∧ evalF Tryz.prog tt callE [] 50 sDec rDec (l, i, ()) = some y := by
  by_cases h1 : i < 0 ∨ (l.length : Int) ≤ i
  · refine ⟨_, callU_ok, (e15u_eq l i).trans ?_⟩
    unfold decA at h
    rw [if_pos h1] at h
    rcases h1 with h1 | h1
    · rw [decide_eq_true h1]; exact h
    · rw [decide_eq_true (show i ≥ (l.length : Int) from h1)]
      cases decide (i < 0) <;> exact h
  · by_cases h2 : wd l i < 1 ∨ 38 < wd l i
    · refine ⟨_, callU_ok, (e15u_eq l i).trans ?_⟩
      unfold decA at h
      rw [if_neg h1, if_pos h2] at h
      have hr : inRange i l.length = true := by simp [inRange]; omega
      obtain ⟨r1, r2⟩ := wd_nonneg hl.1 i
      have ho : outK (IntKind.u8.wrap (if 255 < wd l i then 255 else wd l i)) = true := by
        rw [u8_small (by split <;> omega) (by split <;> omega)]
        simp only [outK, Bool.or_eq_true, Bool.and_eq_true, decide_eq_true_eq]
        split <;> omega
      rw [decide_eq_false (by omega), decide_eq_false (show ¬ i ≥ (l.length : Int) by omega), hr, ho]
      exact h
    · have hd : ∀ q, kindOf (wd l i) = q → Dcase q l i := fun q hq => ⟨hl.1, hl.2, by omega, by omega, DK_iff.2 ⟨by omega, hq⟩⟩
      have hk := kind_lt (k := wd l i) (by omega) (by omega)
      have key : ∀ q, kindOf (wd l i) = q → q < 8 → ∃ callE : (R : Type) → CallE R, (∀ R, CallsOK Tryz.prog (callE R)) ∧ evalF Tryz.prog tt callE [] 50 sDec rDec (l, i, ()) = some y := by
        intro q hq hlt
        have c := hd q hq
        match q, hlt, c with
        | 0, _, c => exact one15 (q := 0) (q' := 0) (len := 1) rfl rfl ((e15_0 _ l i).trans ((dec15_0 c).trans h))
        | 1, _, c => exact one15 (q := 1) (q' := 1) (len := 2) rfl rfl ((e15_1 _ l i).trans ((dec15_n (by unfold KB; omega) rfl rfl c).trans h))
        | 2, _, c => exact one15 (q := 2) (q' := 2) (len := 2) rfl rfl ((e15_2 _ l i).trans ((dec15_n (by unfold KB; omega) rfl rfl c).trans h))
        | 3, _, c => exact one15 (q := 3) (q' := 3) (len := 2) rfl rfl ((e15_3 _ l i).trans ((dec15_n (by unfold KB; omega) rfl rfl c).trans h))
        | 4, _, c => exact one15 (q := 4) (q' := 4) (len := 2) rfl rfl ((e15_4 _ l i).trans ((dec15_n (by unfold KB; omega) rfl rfl c).trans h))
        | 5, _, c => exact one15 (q := 5) (q' := 5) (len := 3) rfl rfl ((e15_5 _ l i).trans ((dec15_5 c).trans h))
        | 6, _, c => exact one15 (q := 6) (q' := 6) (len := 3) rfl rfl ((e15_6 _ l i).trans ((dec15_6 c).trans h))
        | 7, _, c => exact one15 (q := 7) (q' := 7) (len := 7) rfl rfl ((e15_7 _ l i).trans ((dec15_7 c).trans h))
        | q + 8, hlt, _ => omega
      exact key _ rfl hk

theorem fnSome {f : FuncId} {sa sr : Sig} {F : sa.den → Option (Shape.den (resShape 0 sr))}
    (h : ∀ x y, F x = some y → ∃ callE : (R : Type) → CallE R, (∀ R, CallsOK Tryz.prog (callE R)) ∧ ∃ lss, evalF Tryz.prog tt callE lss f sa sr x = some y) : FnOK Tryz.prog f sa sr F := fun x y hF => by
  obtain ⟨callE, h1, lss, h2⟩ := h x y hF
  exact evalF_ok tt_ok mixed names h1 h2

theorem fn15 : FnOK Tryz.prog 50 sDec rDec FDec := fnSome fun x y h => by
  obtain ⟨l, i, ⟨⟩⟩ := x
  by_cases hl : inOK l
  · obtain ⟨callE, h1, h2⟩ := some15 hl ((FDec_in hl i).symm.trans h)
    exact ⟨callE, h1, [], h2⟩
  · cases (FDec_out hl i).symm.trans h
theorem numD_some (q : Nat) (low high : Int) (l : List Int) (i w : Int) : ∃ y, numD q low high l i w = some y := by
  unfold numD; split <;> exact ⟨_, rfl⟩
theorem decK_some (q : Nat) (l : List Int) (i w : Int) : ∃ y, decK q l i w = some y := by
  unfold decK
  split <;> first | exact ⟨_, rfl⟩ | exact numD_some _ _ _ _ _ _ | ((repeat' split) <;> exact ⟨_, rfl⟩)
theorem decA_some (l : List Int) (i : Int) : ∃ y, decA l i = some y := by
  unfold decA
  split
  · exact ⟨_, rfl⟩
  · split
    · exact ⟨_, rfl⟩
    · split
      · exact ⟨_, rfl⟩
      · exact decK_some _ _ _ _
end Go.Pv
/-! ### Shapes with structure: a slot of a frame may hold boxes and live rows within; grabbed as typed data, and put down again with all else forgotten. -/
namespace Go.Pv

/-- what stands in cells -/
inductive Tr where
  | unit
  /-- data -/
  | dat (τ : Ty)
  /-- one cell: a slice of a live row of its own, from its begin on -/
  | row (τ : Ty)
  /-- one cell: a map of its own -/
  | mp (k : IntKind) (τ : Ty)
  /-- one cell: a pointer to a variable of its own -/
  | box (t : Tr)
  /-- one cell: a function with what it has taken of its surroundings -/
  | fn (f : FuncId) (a : Tr)
  | pair (a b : Tr)

@[reducible] def Tr.den : Tr → Type
  | .unit => Unit
  | .dat τ => τ.den
  | .row τ => List τ.den
  | .mp _ τ => List (Int × τ.den)
  | .box t => t.den
  | .fn _ a => a.den
  | .pair a b => a.den × b.den

/-- a tuple -/
def Tr.tup : List Tr → Tr
  | [] => .unit
  | [a] => a
  | a :: b :: r => .pair a (Tr.tup (b :: r))

def Tr.wid : Tr → Nat
  | .unit => 0
  | .dat _ => 0
  | .row _ => 1
  | .mp _ _ => 1
  | .box t => t.wid + 1
  | .fn _ a => a.wid
  | .pair a b => a.wid + b.wid

def Tr.grab (M : Mem) : (t : Tr) → List V → Option (t.den × List V × List (Option Nat))
  | .unit, cs => some ((), cs, [])
  | .dat τ, cs => match dec τ cs with
    | some (x, r) => some (x, r, [])
    | none => none
  | .row τ, cs => match cs with
    | [] => none
    | v :: r => match v with
      | .nils => some ([], r, [none])
      | .sl b i m g => match M b with
        | .row τ' l g' false => if h : τ' = τ then (bif Nat.beq g g' && Nat.beq i 0 then some (cut (h ▸ l) 0 m, r, [some b]) else none) else none
        | _ => none
      | _ => none
  | .mp k τ, cs => match cs with
    | [] => none
    | v :: r => match v with
      | .mp b => match M b with
        | .mp k' τ' l => if h : k' = k ∧ τ' = τ then some (h.2 ▸ l, r, [some b]) else none
        | _ => none
      | _ => none
  | .box t, cs => match cs with
    | [] => none
    | v :: r => match v with
      | .ptr b i j _ => match M b with
        | .box cells => bif Nat.beq i 0 && Nat.beq j 0 then (match t.grab M cells with
          | some (x, q, obs) => match q with
            | [] => some (x, r, some b :: obs)
            | _ => none
          | none => none) else none
        | _ => none
      | _ => none
  | .fn f a, cs => match cs with
    | [] => none
    | v :: r => match v with
      | .fn f' cap => bif Nat.beq f f' then (match a.grab M cap with
        | some (x, q, obs) => match q with
          | [] => some (x, r, obs)
          | _ => none
        | none => none) else none
      | _ => none
  | .pair a b, cs => match a.grab M cs with
    | some (x, r, o1) => match b.grab M r with
      | some (y, r', o2) => some ((x, y), r', o1 ++ o2)
      | none => none
    | none => none

def Tr.cells : (t : Tr) → Nat → t.den → List V
  | .unit, _, _ => []
  | .dat τ, _, x => enc τ x
  | .row _, k, _ => [.sl k 0 none 0]
  | .mp _ _, k, _ => [.mp k]
  | .box _, k, _ => [.ptr k 0 0 0]
  | .fn f a, k, x => [.fn f (a.cells k x)]
  | .pair a b, k, x => a.cells k x.1 ++ b.cells (k + a.wid) x.2

def Tr.mem : (t : Tr) → Nat → t.den → Mem
  | .unit, _, _ => fun _ => .none
  | .dat _, _, _ => fun _ => .none
  | .row τ, k, l => fun n => bif Nat.beq n k then .row τ l 0 false else .none
  | .mp q τ, k, l => fun n => bif Nat.beq n k then .mp q τ l else .none
  | .box t, k, x => fun n => bif Nat.beq n k then .box (t.cells (k + 1) x) else t.mem (k + 1) x n
  | .fn _ a, k, x => a.mem k x
  | .pair a b, k, x => fun n => bif Nat.blt n (k + a.wid) then a.mem k x.1 n else b.mem (k + a.wid) x.2 n

section
variable {β β' : Nat → Option Loc} {M M' : Mem} {Z : Nat → Prop} {h : Heap}

theorem blt_iff {a b : Nat} : Nat.blt a b = true ↔ a < b := by
  constructor
  · intro e; exact Nat.le_of_ble_eq_true e
  · intro e; exact Nat.ble_eq_true_of_le e
theorem blt_false {a b : Nat} (h : b ≤ a) : Nat.blt a b = false := by
  cases e : Nat.blt a b with
  | false => rfl
  | true => have := blt_iff.1 e; omega
theorem beq_ne {a b : Nat} (h : a ≠ b) : Nat.beq a b = false := by
  cases e : Nat.beq a b with
  | false => rfl
  | true => exact absurd (Nat.eq_of_beq_eq_true e) h

theorem Tr.mem_lt : ∀ (t : Tr) (k : Nat) (x : t.den) (n : Nat), n < k → t.mem k x n = .none
  | .unit, _, _, _, _ => rfl
  | .dat _, _, _, _, _ => rfl
  | .row τ, k, l, n, hn => by simp only [Tr.mem, beq_ne (show n ≠ k by omega), cond_false]
  | .mp q τ, k, l, n, hn => by simp only [Tr.mem, beq_ne (show n ≠ k by omega), cond_false]
  | .box t, k, x, n, hn => by
    simp only [Tr.mem, beq_ne (show n ≠ k by omega), cond_false]
    exact t.mem_lt (k + 1) x n (by omega)
  | .fn _ a, k, x, n, hn => by
    simp only [Tr.mem]
    exact a.mem_lt k x n hn
  | .pair a b, k, x, n, hn => by
    simp only [Tr.mem, blt_iff.2 (show n < k + a.wid by omega), cond_true]
    exact a.mem_lt k x.1 n hn

theorem Tr.mem_ge : ∀ (t : Tr) (k : Nat) (x : t.den) (n : Nat), k + t.wid ≤ n → t.mem k x n = .none
  | .unit, _, _, _, _ => rfl
  | .dat _, _, _, _, _ => rfl
  | .row τ, k, l, n, hn => by
    simp only [Tr.wid] at hn
    simp only [Tr.mem, beq_ne (show n ≠ k by omega), cond_false]
  | .mp q τ, k, l, n, hn => by
    simp only [Tr.wid] at hn
    simp only [Tr.mem, beq_ne (show n ≠ k by omega), cond_false]
  | .box t, k, x, n, hn => by
    simp only [Tr.wid] at hn
    simp only [Tr.mem, beq_ne (show n ≠ k by omega), cond_false]
    exact t.mem_ge (k + 1) x n (by omega)
  | .fn _ a, k, x, n, hn => by
    simp only [Tr.wid] at hn
    simp only [Tr.mem]
    exact a.mem_ge k x n hn
  | .pair a b, k, x, n, hn => by
    simp only [Tr.wid] at hn
    simp only [Tr.mem, blt_false (show k + a.wid ≤ n by omega), cond_false]
    exact b.mem_ge (k + a.wid) x.2 n (by omega)

theorem RL.split {cs ds : List V} {vs : List Value} (r : RL β M Z h (cs ++ ds) vs) : ∃ us ws, vs = us ++ ws ∧ RL β M Z h cs us ∧ RL β M Z h ds ws := by
  induction cs generalizing vs with
  | nil => exact ⟨[], vs, rfl, RL.nil, r⟩
  | cons c cs ih =>
    obtain ⟨v, vs', rfl, h1, h2⟩ := r.cons_inv
    obtain ⟨us, ws, rfl, h3, h4⟩ := ih h2
    exact ⟨v :: us, ws, rfl, RL.cons h1 h3, h4⟩

theorem RL.join {cs ds : List V} {us ws : List Value} (r : RL β M Z h cs us) (q : RL β M Z h ds ws) : RL β M Z h (cs ++ ds) (us ++ ws) := by
  induction cs generalizing us with
  | nil =>
    have : us = [] := by have := r.1; simpa using this.symm
    subst this; exact q
  | cons c cs ih =>
    obtain ⟨v, vs', rfl, h1, h2⟩ := r.cons_inv
    exact RL.cons h1 (ih h2)

theorem dec_split {τ : Ty} {cs r : List V} {vs : List Value} {x : τ.den} (hd : dec τ cs = some (x, r)) (hr : RL β M Z h cs vs) : ∃ us ws, vs = us ++ ws ∧ RD h Z τ x us ∧ RL β M Z h r ws := by
  obtain ⟨h1, h2⟩ := dec_ok hd hr
  exact ⟨_, _, (List.take_append_drop _ vs).symm, h1, h2⟩

/-- what a tree's blocks are -/
structure TrOK (β : Nat → Option Loc) (M : Mem) (Z : Nat → Prop) (h : Heap) (β' : Nat → Option Loc) (M' : Mem) (obs : List (Option Nat)) (k : Nat) : Prop where
  rb : ∀ j, j < obs.length → RB β' M' Z h (k + j)
  from_ : ∀ j, j < obs.length → ∀ cb, lies β' M' (k + j) cb → ∃ b, obs.getD j none = some b ∧ (M b).own = true ∧ lies β M b cb

theorem Tr.grab_len : ∀ (t : Tr) {cs : List V} {x : t.den} {rest : List V} {obs : List (Option Nat)}, t.grab M cs = some (x, rest, obs) → obs.length = t.wid
  | .unit, cs, x, rest, obs, hg => by simp only [Tr.grab, Option.some.injEq, Prod.mk.injEq] at hg; rw [← hg.2.2]; rfl
  | .dat τ, cs, x, rest, obs, hg => by
    simp only [Tr.grab] at hg
    split at hg
    · simp only [Option.some.injEq, Prod.mk.injEq] at hg; rw [← hg.2.2]; rfl
    · cases hg
  | .row τ, cs, x, rest, obs, hg => by
    simp only [Tr.grab] at hg
    split at hg
    · cases hg
    · split at hg
      · simp only [Option.some.injEq, Prod.mk.injEq] at hg; rw [← hg.2.2]; rfl
      · split at hg
        · split at hg
          · rename_i b i m g _ τ' l g' _ _
            cases hq : Nat.beq g g' && Nat.beq i 0 with
            | false => rw [hq] at hg; cases hg
            | true => rw [hq] at hg; simp only [cond_true, Option.some.injEq, Prod.mk.injEq] at hg; rw [← hg.2.2]; rfl
          · cases hg
        · cases hg
      · cases hg
  | .mp q τ, cs, x, rest, obs, hg => by
    simp only [Tr.grab] at hg
    split at hg
    · cases hg
    · split at hg
      · split at hg
        · split at hg
          · simp only [Option.some.injEq, Prod.mk.injEq] at hg; rw [← hg.2.2]; rfl
          · cases hg
        · cases hg
      · cases hg
  | .box t, cs, x, rest, obs, hg => by
    simp only [Tr.grab] at hg
    split at hg
    · cases hg
    · split at hg
      · split at hg
        · rename_i b i j g _ cells _
          cases hq : Nat.beq i 0 && Nat.beq j 0 with
          | false => rw [hq] at hg; cases hg
          | true =>
            rw [hq] at hg
            simp only [cond_true] at hg
            split at hg
            · rename_i y q o hy
              split at hg
              · simp only [Option.some.injEq, Prod.mk.injEq] at hg
                rw [← hg.2.2]
                simp only [List.length_cons, Tr.wid]
                rw [t.grab_len hy]
              · cases hg
            · cases hg
        · cases hg
      · cases hg
  | .fn f a, cs, x, rest, obs, hg => by
    simp only [Tr.grab] at hg
    split at hg
    · cases hg
    · split at hg
      · rename_i f' cap
        cases hq : Nat.beq f f' with
        | false => rw [hq] at hg; cases hg
        | true =>
          rw [hq] at hg
          simp only [cond_true] at hg
          split at hg
          · rename_i y q o hy
            split at hg
            · simp only [Option.some.injEq, Prod.mk.injEq] at hg
              rw [← hg.2.2]
              simp only [Tr.wid]
              exact a.grab_len hy
            · cases hg
          · cases hg
      · cases hg
  | .pair a b, cs, x, rest, obs, hg => by
    simp only [Tr.grab] at hg
    split at hg
    · rename_i y r o1 h1
      split at hg
      · rename_i z r' o2 h2
        simp only [Option.some.injEq, Prod.mk.injEq] at hg
        rw [← hg.2.2]
        simp only [List.length_append, Tr.wid]
        rw [a.grab_len h1, b.grab_len h2]
      · cases hg
    · cases hg

theorem cut0_get {α : Type} {l : List α} {m : Option Nat} {k : Nat} {x : α} (h : (cut l 0 m)[k]? = some x) : l[k]? = some x := by
  unfold cut at h
  cases m with
  | none => simpa using h
  | some m =>
    simp only [List.getElem?_take] at h
    split at h
    · simpa using h
    · cases h

theorem getD_nil {α : Type} {j : Nat} {d : α} : ([] : List α).getD j d = d := by simp [List.getD]

theorem Tr.grab_ok (hm : RMem β M Z h) : ∀ (t : Tr) {cs : List V} {vs : List Value} {x : t.den} {rest : List V} {obs : List (Option Nat)}, t.grab M cs = some (x, rest, obs) → RL β M Z h cs vs →
    ∀ (k : Nat), (∀ j, j < obs.length → β' (k + j) = locOf β (obs.getD j none)) → (∀ j, j < obs.length → M' (k + j) = t.mem k x (k + j)) →
    ∃ us ws, vs = us ++ ws ∧ RL β' M' Z h (t.cells k x) us ∧ RL β M Z h rest ws ∧ TrOK β M Z h β' M' obs k
  | .unit, cs, vs, x, rest, obs, hg, hr, k, _, _ => by
    simp only [Tr.grab, Option.some.injEq, Prod.mk.injEq] at hg
    obtain ⟨_, rfl, rfl⟩ := hg
    exact ⟨[], vs, rfl, RL.nil, hr, ⟨fun j hj => by simp at hj, fun j hj => by simp at hj⟩⟩
  | .dat τ, cs, vs, x, rest, obs, hg, hr, k, _, _ => by
    simp only [Tr.grab] at hg
    split at hg
    · rename_i y r hd
      simp only [Option.some.injEq, Prod.mk.injEq] at hg
      obtain ⟨rfl, rfl, rfl⟩ := hg
      obtain ⟨us, ws, rfl, h1, h2⟩ := dec_split hd hr
      exact ⟨us, ws, rfl, RL.of_RD h1, h2, ⟨fun j hj => by simp at hj, fun j hj => by simp at hj⟩⟩
    · cases hg
  | .row τ, cs, vs, x, rest, obs, hg, hr, k, hβ, hM => by
    simp only [Tr.grab] at hg
    split at hg
    · cases hg
    · rename_i v r
      obtain ⟨u, ws, rfl, hv, hr2⟩ := hr.cons_inv
      split at hg
      · simp only [Option.some.injEq, Prod.mk.injEq] at hg
        obtain ⟨rfl, rfl, rfl⟩ := hg
        have := hv.nils_inv; subst this
        have e1 := hβ 0 (by simp)
        have e2 := hM 0 (by simp)
        simp only [Nat.add_zero, List.getD_cons_zero, locOf] at e1
        simp only [Nat.add_zero, Tr.mem, beq_self, cond_true] at e2
        refine ⟨[_], ws, rfl, RL.cons (.sl k 0 none 0 _ rfl (by rw [e2]; simp) fun g0 hg0 => ?_) RL.nil, hr2, ⟨fun j hj => ?_, fun j hj cb hl => ?_⟩⟩
        · rw [e2] at hg0; simp only [Blk.gen, Option.some.injEq] at hg0; subst hg0
          exact ⟨Nat.le_refl _, fun _ => .inl ⟨e1, rfl, .inl rfl, rfl⟩⟩
        · have : j = 0 := by simpa using hj
          subst this
          unfold RB; rw [Nat.add_zero, e2]; exact .inl ⟨rfl, e1⟩
        · have : j = 0 := by simpa using hj
          subst this
          rw [lies, Nat.add_zero, e1] at hl; simp [Loc.blk?] at hl
      · rename_i b i m g
        split at hg
        · rename_i τ' l g' hb
          split at hg
          · rename_i e
            subst e
            cases hq : Nat.beq g g' && Nat.beq i 0 with
            | false => rw [hq] at hg; cases hg
            | true =>
              rw [hq] at hg
              simp only [cond_true, Option.some.injEq, Prod.mk.injEq] at hg
              obtain ⟨rfl, rfl, rfl⟩ := hg
              simp only [Bool.and_eq_true] at hq
              have q1 := Nat.eq_of_beq_eq_true hq.1
              have q2 := Nat.eq_of_beq_eq_true hq.2
              subst q1; subst q2
              have e1 := hβ 0 (by simp)
              have e2 := hM 0 (by simp)
              simp only [Nat.add_zero, List.getD_cons_zero, locOf] at e1
              simp only [Nat.add_zero, Tr.mem, beq_self, cond_true] at e2
              have hgen : (M b).gen = some g := by rw [hb]; rfl
              have hs := hv.sl_inv hgen
              have h1 : u.oneCell' = true := by cases hv; assumption
              have hrb := hm.blk b
              unfold RB at hrb
              rw [hb] at hrb hs
              simp only at hrb
              have hle : (cut l 0 m).length ≤ l.length := by cases m <;> simp [cut]; omega
              have hget : ∀ i x, (cut l 0 m)[i]? = some x → l[i]? = some x := fun i x hx => cut0_get hx
              refine ⟨[u], ws, rfl, RL.cons (.sl k 0 none 0 _ h1 (by rw [e2]; simp) fun g0 hg0 => ?_) RL.nil, hr2, ⟨fun j hj => ?_, fun j hj cb hl => ?_⟩⟩
              · rw [e2] at hg0; simp only [Blk.gen, Option.some.injEq] at hg0; subst hg0
                refine ⟨Nat.le_refl _, fun _ => ?_⟩
                rw [e2, e1]
                rcases hs with ⟨f0, _, _, f1⟩ | ⟨cb, base, sz, top, off, len, cap, f1, f2, f3, f4, f5, f6, f7⟩
                · exact .inl ⟨f0, rfl, .inl rfl, f1⟩
                · refine .inr ⟨cb, base, sz, top, off, len, cap, f1, f2, f3, f4, f5, f6, ?_⟩
                  cases m with
                  | none => simp only [Blk.cnt] at f7 ⊢; simpa [cut] using f7
                  | some m =>
                    simp only [Blk.cnt] at f7 ⊢
                    simp only [cut, List.drop_zero, List.length_take]; omega
              · have : j = 0 := by simpa using hj
                subst this
                unfold RB; rw [Nat.add_zero, e2, e1]; simp only
                rcases hrb with ⟨f0, f1⟩ | ⟨cb, base, Te, c, fz, f1, f2, f3, f4, f5, f6⟩
                · left
                  subst f0
                  refine ⟨?_, f1⟩
                  cases m <;> simp [cut]
                · right
                  refine ⟨cb, base, Te, c, fz, f1, f2, f3, ?_, fun i x hx => f5 i x (hget i x hx), f6⟩
                  have := Nat.mul_le_mul_right τ'.size hle
                  omega
              · have : j = 0 := by simpa using hj
                subst this
                refine ⟨b, rfl, by rw [hb]; rfl, ?_⟩
                rw [lies, Nat.add_zero, e1] at hl
                exact ⟨by rw [hgen]; simp, hl.2⟩
          · cases hg
        · cases hg
      · cases hg
  | .mp q τ, cs, vs, x, rest, obs, hg, hr, k, hβ, hM => by
    simp only [Tr.grab] at hg
    split at hg
    · cases hg
    · rename_i v r
      obtain ⟨u, ws, rfl, hv, hr2⟩ := hr.cons_inv
      split at hg
      · rename_i b
        split at hg
        · rename_i q' τ' l hb
          split at hg
          · rename_i e
            obtain ⟨rfl, rfl⟩ := e
            simp only [Option.some.injEq, Prod.mk.injEq] at hg
            obtain ⟨rfl, rfl, rfl⟩ := hg
            have e1 := hβ 0 (by simp)
            have e2 := hM 0 (by simp)
            simp only [Nat.add_zero, List.getD_cons_zero, locOf] at e1
            simp only [Nat.add_zero, Tr.mem, beq_self, cond_true] at e2
            have hgen : (M b).gen = some 0 := by rw [hb]; rfl
            have h1 : u.oneCell' = true := by cases hv; assumption
            have hrb := hm.blk b
            unfold RB at hrb
            rw [hb] at hrb
            simp only at hrb
            refine ⟨[u], ws, rfl, RL.cons (.mp k _ h1 (by rw [e2]; simp) fun g0 hg0 _ => ?_) RL.nil, hr2, ⟨fun j hj => ?_, fun j hj cb hl => ?_⟩⟩
            · rw [e1]
              cases hv with | mp _ _ _ _ hh => exact hh 0 hgen rfl
            · have : j = 0 := by simpa using hj
              subst this
              unfold RB; rw [Nat.add_zero, e2, e1]; exact hrb
            · have : j = 0 := by simpa using hj
              subst this
              refine ⟨b, rfl, by rw [hb]; rfl, ?_⟩
              rw [lies, Nat.add_zero, e1] at hl
              exact ⟨by rw [hgen]; simp, hl.2⟩
          · cases hg
        · cases hg
      · cases hg
  | .box t, cs, vs, x, rest, obs, hg, hr, k, hβ, hM => by
    simp only [Tr.grab] at hg
    split at hg
    · cases hg
    · rename_i v r
      obtain ⟨u, ws, rfl, hv, hr2⟩ := hr.cons_inv
      split at hg
      · rename_i b i j g
        split at hg
        · rename_i cells hb
          cases hq : Nat.beq i 0 && Nat.beq j 0 with
          | false => rw [hq] at hg; cases hg
          | true =>
            rw [hq] at hg
            simp only [cond_true] at hg
            split at hg
            · rename_i y q o hy
              split at hg
              · simp only [Option.some.injEq, Prod.mk.injEq] at hg
                obtain ⟨rfl, rfl, rfl⟩ := hg
                simp only [Bool.and_eq_true] at hq
                have q1 := Nat.eq_of_beq_eq_true hq.1
                have q2 := Nat.eq_of_beq_eq_true hq.2
                subst q1; subst q2
                have e1 := hβ 0 (by simp)
                have e2 := hM 0 (by simp)
                simp only [Nat.add_zero, List.getD_cons_zero, locOf] at e1
                simp only [Nat.add_zero, Tr.mem, beq_self, cond_true] at e2
                have hgen : (M b).gen = some 0 := by rw [hb]; rfl
                have h1 : u.oneCell' = true := by cases hv; assumption
                have hrb := hm.blk b
                unfold RB at hrb
                rw [hb] at hrb
                simp only at hrb
                obtain ⟨cb, T, c, r1, r2, r3, r4⟩ := hrb
                have hcr : RL β M Z h cells c.toList := RL.of_arr (by omega) r4
                obtain ⟨us, ws', hsp, g1, g2, g3⟩ := t.grab_ok hm hy hcr (k + 1) (fun j hj => by
                  have := hβ (j + 1) (by simp; omega)
                  rw [show k + 1 + j = k + (j + 1) by omega, this]; simp) (fun j hj => by
                  have := hM (j + 1) (by simp; omega)
                  rw [show k + 1 + j = k + (j + 1) by omega, this]
                  simp only [Tr.mem]
                  rw [beq_ne (by omega)]
                  rfl)
                have hw0 : ws' = [] := by have := g2.1; simpa using this.symm
                subst hw0
                rw [List.append_nil] at hsp
                rw [← hsp] at g1
                obtain ⟨t1, t2⟩ := RL.to_arr (vs := c) g1
                refine ⟨[u], ws, rfl, RL.cons (.ptr k 0 0 0 _ h1 (by rw [e2]; simp) fun g0 hg0 => ?_) RL.nil, hr2, ⟨fun j hj => ?_, fun j hj cb' hl => ?_⟩⟩
                · rw [e2] at hg0; simp only [Blk.gen, Option.some.injEq] at hg0; subst hg0
                  have hp : PtrOk (M b) (β b) 0 0 u := by
                    cases hv with | ptr _ _ _ _ _ _ _ hh =>
                    obtain ⟨p1, p2⟩ := hh 0 hgen
                    exact p2 (by omega)
                  exact ⟨Nat.le_refl _, fun _ => hp.of_eq (by rw [e2, hb]; rfl) e1⟩
                · cases j with
                  | zero =>
                    unfold RB; rw [Nat.add_zero, e2, e1]; simp only
                    exact ⟨cb, T, c, r1, r2, t1.symm, t2⟩
                  | succ j =>
                    have := g3.rb j (by simpa using hj)
                    rwa [show k + 1 + j = k + (j + 1) by omega] at this
                · cases j with
                  | zero =>
                    refine ⟨b, rfl, by rw [hb]; rfl, ?_⟩
                    rw [lies, Nat.add_zero, e1] at hl
                    exact ⟨by rw [hgen]; simp, hl.2⟩
                  | succ j =>
                    have := g3.from_ j (by simpa using hj) cb'
                    rw [show k + 1 + j = k + (j + 1) by omega] at this
                    simpa using this hl
              · cases hg
            · cases hg
        · cases hg
      · cases hg
  | .fn f a, cs, vs, x, rest, obs, hg, hr, k, hβ, hM => by
    simp only [Tr.grab] at hg
    split at hg
    · cases hg
    · rename_i v r
      obtain ⟨u, ws, rfl, hv, hr2⟩ := hr.cons_inv
      split at hg
      · rename_i f' cap
        cases hq : Nat.beq f f' with
        | false => rw [hq] at hg; cases hg
        | true =>
          rw [hq] at hg
          simp only [cond_true] at hg
          split at hg
          · rename_i y q o hy
            split at hg
            · simp only [Option.some.injEq, Prod.mk.injEq] at hg
              obtain ⟨rfl, rfl, rfl⟩ := hg
              have hff := Nat.eq_of_beq_eq_true hq
              subst hff
              cases hv with
              | fn _ _ vs' hl hc =>
                have hcr : RL β M Z h cap vs'.toList := RL.of_arr hl hc
                obtain ⟨us, ws', hsp, g1, g2, g3⟩ := a.grab_ok hm hy hcr k hβ hM
                have hw0 : ws' = [] := by have := g2.1; simpa using this.symm
                subst hw0
                rw [List.append_nil] at hsp
                rw [← hsp] at g1
                obtain ⟨t1, t2⟩ := RL.to_arr (vs := vs') g1
                exact ⟨[_], ws, rfl, RL.cons (.fn f _ vs' t1 t2) RL.nil, hr2, g3⟩
            · cases hg
          · cases hg
      · cases hg
  | .pair a b, cs, vs, x, rest, obs, hg, hr, k, hβ, hM => by
    simp only [Tr.grab] at hg
    split at hg
    · rename_i y r o1 h1
      split at hg
      · rename_i z r' o2 h2
        simp only [Option.some.injEq, Prod.mk.injEq] at hg
        obtain ⟨rfl, rfl, rfl⟩ := hg
        have l1 := a.grab_len h1
        have l2 := b.grab_len h2
        obtain ⟨us1, ws1, rfl, a1, a2, a3⟩ := a.grab_ok hm h1 hr k (fun j hj => by
          rw [hβ j (by simp; omega)]; congr 1; simp [List.getD, List.getElem?_append_left hj]) (fun j hj => by
          rw [hM j (by simp; omega)]
          simp only [Tr.mem]
          rw [blt_iff.2 (by omega)]; rfl)
        obtain ⟨us2, ws2, rfl, b1, b2, b3⟩ := b.grab_ok hm h2 a2 (k + a.wid) (fun j hj => by
          have := hβ (o1.length + j) (by simp; omega)
          rw [show k + a.wid + j = k + (o1.length + j) by omega, this]
          congr 1
          simp [List.getD, List.getElem?_append_right]) (fun j hj => by
          have := hM (o1.length + j) (by simp; omega)
          rw [show k + a.wid + j = k + (o1.length + j) by omega, this]
          simp only [Tr.mem]
          rw [blt_false (by omega)]; rfl)
        refine ⟨us1 ++ us2, ws2, by rw [List.append_assoc], a1.join b1, b2, ⟨fun j hj => ?_, fun j hj cb hl => ?_⟩⟩
        · by_cases hlt : j < o1.length
          · exact a3.rb j hlt
          · have := b3.rb (j - o1.length) (by simp at hj; omega)
            rwa [show k + a.wid + (j - o1.length) = k + j by omega] at this
        · by_cases hlt : j < o1.length
          · have := a3.from_ j hlt cb hl
            simpa [List.getD, List.getElem?_append_left hlt] using this
          · have := b3.from_ (j - o1.length) (by simp at hj; omega) cb
            rw [show k + a.wid + (j - o1.length) = k + j by omega] at this
            have := this hl
            simpa [List.getD, List.getElem?_append_right (Nat.not_lt.1 hlt)] using this
      · cases hg
    · cases hg

end

/-! ### Freezing -/
section
variable {β β' : Nat → Option Loc} {M M' : Mem} {Z : Nat → Prop} {w : World}
/-- the same inside a variable that a pointer names -/
def frzP (M : Mem) (v : V) : V × List (Nat × Blk) :=
  match v with
  | .ptr b i j g => match M b with
    | .box cells => match frzL M cells with
      | (cs', u) => match (M.upds u) b with
        | .box cs2 => bif Nat.beq cs'.length cs2.length then (.ptr b i j g, u ++ [(b, .box cs')]) else (.ptr b i j g, [])
        | _ => (.ptr b i j g, [])
    | _ => (.ptr b i j g, [])
  | v => frzV M v

theorem frz_box {M : Mem} {Z : Nat → Prop} (hm : RMem β M Z w.heap) {b : Nat} {cs cs' : List V} (hb : M b = .box cs) (hl : cs'.length = cs.length)
    (hv : ∀ (cb : Nat) (T : TypeId) (c : Array Value), β b = some (.at cb 0 1 c.size) → w.heap[cb]? = some (.cells c T (0, 0)) → RL β M Z w.heap cs' c.toList) :
    FrzOK β M Z w [(b, .box cs')] Z := by
  have hM : ∀ b', b' ≠ b → (M.upd b (.box cs')) b' = M b' := fun b' h => upd_ne _ _ h
  have hMb : (M.upd b (.box cs')) b = .box cs' := upd_same _ _ _
  have hgen : ∀ b', ((M.upd b (.box cs')) b').gen = (M b').gen := fun b' => by
    by_cases e : b' = b
    · subst e; rw [hMb, hb]; rfl
    · rw [hM b' e]
  have hlies : ∀ b' cb, lies β (M.upd b (.box cs')) b' cb ↔ lies β M b' cb := fun b' cb => by unfold lies; rw [hgen]
  have hown : ∀ b', ((M.upd b (.box cs')) b').own = (M b').own := fun b' => by
    by_cases e : b' = b
    · subst e; rw [hMb, hb]; rfl
    · rw [hM b' e]
  have howned : ∀ cb, owned β (M.upd b (.box cs')) cb → owned β M cb := fun cb ho => by
    obtain ⟨b', h1, h2⟩ := ho
    exact ⟨b', (hown b') ▸ h1, (hlies b' cb).1 h2⟩
  have gr : Grow β M Z w.heap β (M.upd b (.box cs')) Z w.heap := by
    refine ⟨fun _ _ => rfl, fun _ h => h, fun b' h => ?_, fun b' _ h => by rw [hgen]; exact h, fun b' g0 hg0 g1 hg1 => ?_⟩
    · by_cases e : b' = b
      · subst e; rw [hMb]; simp
      · rw [hM b' e]; exact h
    · rw [hgen, hg0] at hg1; cases hg1
      refine ⟨Nat.le_refl _, fun _ => ?_⟩
      by_cases e : b' = b
      · subst e; rw [hMb, hb]; exact ⟨rfl, hl, rfl, rfl⟩
      · rw [hM b' e]; exact ⟨rfl, rfl, rfl, rfl⟩
  refine ⟨⟨fun b' => ?_, fun b' b'' cb h1 h2 h3 => ?_, fun cb hz ho => hm.zown cb hz (howned cb ho), hm.zlt⟩, ⟨{ toGrow := gr, size := Nat.le_refl _, frame := fun _ _ _ => rfl, own := fun cb ho => .inr (howned cb ho), znew := fun cb hz => .inl hz }, Wd.refl _⟩⟩
  · simp only [Mem.upds]
    by_cases e : b' = b
    · subst e
      have hrb := hm.blk b'
      unfold RB at hrb ⊢
      rw [hb] at hrb
      rw [hMb]
      simp only at hrb ⊢
      obtain ⟨cb, T, c, e1, e2, e3, _⟩ := hrb
      obtain ⟨t1, t2⟩ := RL.to_arr (hv cb T c e1 e2)
      exact ⟨cb, T, c, e1, e2, t1.symm, fun i hi => (t2 i hi).mono gr⟩
    · exact (hm.blk b').keep gr (hM b' e) (fun _ => rfl) fun _ _ => rfl
  · simp only [Mem.upds] at h1 h2 h3
    exact hm.sep b' b'' cb ((hown b') ▸ h1) ((hlies b' cb).1 h2) ((hlies b'' cb).1 h3)

theorem frzP_ok (hm : RMem β M Z w.heap) {v : V} {x : Value} (hv : RV β M Z w.heap v x) : ∃ Z', FrzOK β M Z w (frzP M v).2 Z' ∧ RV β (M.upds (frzP M v).2) Z' w.heap (frzP M v).1 x := by
  unfold frzP
  split
  · rename_i b i j g
    cases hb : M b with
    | box cells =>
      simp only
      have hrb := hm.blk b
      unfold RB at hrb
      rw [hb] at hrb
      simp only at hrb
      obtain ⟨cb, T, c, e1, e2, e3, e4⟩ := hrb
      obtain ⟨Z1, f1, r1⟩ := frzL_ok hm (RL.of_arr (by omega) e4)
      generalize hfl : frzL M cells = fl at *
      obtain ⟨cs', u⟩ := fl
      simp only at f1 r1 ⊢
      cases hb2 : (M.upds u) b with
      | box cs2 =>
        simp only
        cases hq : Nat.beq cs'.length cs2.length with
        | false => exact ⟨Z, FrzOK.none hm, hv⟩
        | true =>
          have hl := Nat.eq_of_beq_eq_true hq
          simp only [cond_true]
          have f2 := frz_box (w := w) f1.mem hb2 hl fun cb' T' c' g1 g2 => by
            rw [e1] at g1
            simp only [Option.some.injEq, Loc.at.injEq] at g1
            obtain ⟨rfl, _⟩ := g1
            rw [e2] at g2
            simp only [Option.some.injEq, Obj.cells.injEq] at g2
            obtain ⟨rfl, _⟩ := g2
            exact r1
          exact ⟨Z1, f1.trans f2, hv.mono (f1.trans f2).ev.toEv.toGrow⟩
      | none => exact ⟨Z, FrzOK.none hm, hv⟩
      | dead => exact ⟨Z, FrzOK.none hm, hv⟩
      | row _ _ _ _ => exact ⟨Z, FrzOK.none hm, hv⟩
      | mp _ _ _ => exact ⟨Z, FrzOK.none hm, hv⟩
    | none => exact ⟨Z, FrzOK.none hm, hv⟩
    | dead => exact ⟨Z, FrzOK.none hm, hv⟩
    | row _ _ _ _ => exact ⟨Z, FrzOK.none hm, hv⟩
    | mp _ _ _ => exact ⟨Z, FrzOK.none hm, hv⟩
  · exact frzV_ok hm hv
end

/-! ### Slots -/
/-- a slot of a frame: whether it is a struct or an array, whether live slices in it are frozen first, what stands in it -/
structure Sl where
  tmp : Nat
  ag : Bool
  fr : Bool
  tr : Tr

/-- plain slots -/
@[reducible] def Sl.val (t : Nat) (τ : Ty) : Sl := ⟨t, false, false, .dat τ⟩
@[reducible] def Sl.agg (t : Nat) (τ : Ty) : Sl := ⟨t, true, false, .dat τ⟩
@[reducible] def Sl.row (t : Nat) (τ : Ty) : Sl := ⟨t, false, false, .row τ⟩
@[reducible] def Sl.box (t : Nat) (q : Tr) : Sl := ⟨t, false, false, .box q⟩
@[reducible] def Sl.fn (t f : Nat) (a : Tr) : Sl := ⟨t, false, false, .fn f a⟩
@[reducible] def Sl.fval (t : Nat) (τ : Ty) : Sl := ⟨t, false, true, .dat τ⟩
@[reducible] def Sl.fbox (t : Nat) (τ : Ty) : Sl := ⟨t, false, true, .box (.dat τ)⟩
@[reducible] def Sl.fagg (t : Nat) (τ : Ty) : Sl := ⟨t, true, true, .dat τ⟩

abbrev TSh := List Sl
@[reducible] def TSh.den : TSh → Type
  | [] => Unit
  | s :: r => s.tr.den × TSh.den r

def TSh.wid : TSh → Nat
  | [] => 0
  | s :: r => s.tr.wid + TSh.wid r

/-- the frame with what is to be frozen frozen -/
def TSh.frz : TSh → (Nat → V) → Mem → (Nat → V) × Mem
  | [], ρ, M => (ρ, M)
  | s :: r, ρ, M => bif s.fr then (match frzP M (ρ s.tmp) with
    | (v, u) => TSh.frz r (setT ρ s.tmp v) (M.upds u)) else TSh.frz r ρ M

def Sl.cells (ρ : Nat → V) (s : Sl) : Option (List V) :=
  bif s.ag then (match ρ s.tmp with
    | .agg cs => some cs
    | _ => none) else some [ρ s.tmp]

def TSh.grab0 (ρ : Nat → V) (M : Mem) : (sh : TSh) → Option (sh.den × List (Option Nat))
  | [] => some ((), [])
  | s :: r => match s.cells ρ with
    | none => none
    | some cs => match s.tr.grab M cs with
      | some (x, q, o1) => match q with
        | [] => (match TSh.grab0 ρ M r with
          | some (y, o2) => some ((x, y), o1 ++ o2)
          | none => none)
        | _ => none
      | none => none

def hasO (b : Nat) : List (Option Nat) → Bool
  | [] => false
  | none :: r => hasO b r
  | some x :: r => Nat.beq b x || hasO b r
def nodupO : List (Option Nat) → Bool
  | [] => true
  | none :: r => nodupO r
  | some b :: r => !hasO b r && nodupO r

def TSh.grab (ρ : Nat → V) (M : Mem) (sh : TSh) : Option sh.den :=
  match TSh.frz sh ρ M with
  | (ρ, M) => match TSh.grab0 ρ M sh with
    | some (x, obs) => bif nodupO obs then some x else none
    | none => none

def TSh.putT : (sh : TSh) → Nat → sh.den → (Nat → V)
  | [], _, _ => fun _ => .dead
  | s :: r, k, x => setT (TSh.putT r (k + s.tr.wid) x.2) s.tmp (mkv s.ag (s.tr.cells k x.1))
def TSh.putM : (sh : TSh) → Nat → sh.den → Mem
  | [], _, _ => fun _ => .none
  | s :: r, k, x => fun n => bif Nat.blt n (k + s.tr.wid) then s.tr.mem k x.1 n else TSh.putM r (k + s.tr.wid) x.2 n

section
variable {β β' : Nat → Option Loc} {M M' : Mem} {Z : Nat → Prop} {h : Heap}

theorem TSh.putM_lt : ∀ (sh : TSh) (k : Nat) (x : sh.den) (n : Nat), n < k → TSh.putM sh k x n = .none
  | [], _, _, _, _ => rfl
  | s :: r, k, x, n, hn => by
    simp only [TSh.putM, blt_iff.2 (show n < k + s.tr.wid by omega), cond_true]
    exact s.tr.mem_lt k x.1 n hn
theorem TSh.putM_ge : ∀ (sh : TSh) (k : Nat) (x : sh.den) (n : Nat), k + sh.wid ≤ n → TSh.putM sh k x n = .none
  | [], _, _, _, _ => rfl
  | s :: r, k, x, n, hn => by
    simp only [TSh.wid] at hn
    simp only [TSh.putM, blt_false (show k + s.tr.wid ≤ n by omega), cond_false]
    exact TSh.putM_ge r (k + s.tr.wid) x.2 n (by omega)

theorem TSh.grab0_len {ρ : Nat → V} : ∀ (sh : TSh) {x : sh.den} {obs : List (Option Nat)}, TSh.grab0 ρ M sh = some (x, obs) → obs.length = sh.wid
  | [], x, obs, hg => by simp only [TSh.grab0, Option.some.injEq, Prod.mk.injEq] at hg; rw [← hg.2]; rfl
  | s :: r, x, obs, hg => by
    simp only [TSh.grab0] at hg
    split at hg
    · cases hg
    · split at hg
      · rename_i y q o1 h1
        split at hg
        · split at hg
          · rename_i z o2 h2
            simp only [Option.some.injEq, Prod.mk.injEq] at hg
            rw [← hg.2]
            simp only [List.length_append, TSh.wid]
            rw [s.tr.grab_len h1, TSh.grab0_len r h2]
          · cases hg
        · cases hg
      · cases hg

theorem slot_ok {s : Sl} {ρ : Nat → V} {cs : List V} (hs : s.cells ρ = some cs) {u : Value} (hv : RV β M Z h (ρ s.tmp) u) : ∃ vs, RL β M Z h cs vs ∧
    ∀ {β' : Nat → Option Loc} {M' : Mem} {ds : List V}, RL β' M' Z h ds vs → RV β' M' Z h (mkv s.ag ds) u := by
  unfold Sl.cells at hs
  cases ha : s.ag with
  | true =>
    rw [ha] at hs
    simp only [cond_true] at hs
    split at hs
    · rename_i cs' hρ
      cases hs
      rw [hρ] at hv
      obtain ⟨vs, rfl, hl, hc⟩ := hv.agg_inv
      refine ⟨vs.toList, RL.of_arr hl hc, fun r => ?_⟩
      obtain ⟨e1, e2⟩ := RL.to_arr r
      exact .agg _ _ e1 e2
    · cases hs
  | false =>
    rw [ha] at hs
    simp only [cond_false, Option.some.injEq] at hs
    subst hs
    refine ⟨[u], RL.cons hv RL.nil, fun {β' M' ds} r => ?_⟩
    cases ds with
    | nil => have := r.1; simp at this
    | cons d ds =>
      obtain ⟨v, vs, e, h1, _⟩ := r.cons_inv
      cases e
      exact h1

theorem TSh.grab0_ok (hm : RMem β M Z h) {ρ : Nat → V} {tv : Nat → Value} (hρ : ∀ t, RV β M Z h (ρ t) (tv t)) : ∀ (sh : TSh) {x : sh.den} {obs : List (Option Nat)}, TSh.grab0 ρ M sh = some (x, obs) →
    ∀ (k : Nat), (∀ j, j < obs.length → β' (k + j) = locOf β (obs.getD j none)) → (∀ j, j < obs.length → M' (k + j) = TSh.putM sh k x (k + j)) →
    (∀ t, RV β' M' Z h (TSh.putT sh k x t) (tv t)) ∧ TrOK β M Z h β' M' obs k
  | [], x, obs, hg, k, _, _ => by
    simp only [TSh.grab0, Option.some.injEq, Prod.mk.injEq] at hg
    obtain ⟨_, rfl⟩ := hg
    exact ⟨fun t => .dead _, ⟨fun j hj => by simp at hj, fun j hj => by simp at hj⟩⟩
  | s :: r, x, obs, hg, k, hβ, hM => by
    simp only [TSh.grab0] at hg
    split at hg
    · cases hg
    · rename_i cs hcs
      split at hg
      · rename_i y q o1 h1
        split at hg
        · split at hg
          · rename_i z o2 h2
            simp only [Option.some.injEq, Prod.mk.injEq] at hg
            obtain ⟨rfl, rfl⟩ := hg
            have l1 := s.tr.grab_len h1
            have l2 := TSh.grab0_len r h2
            obtain ⟨vs, hr, back⟩ := slot_ok hcs (hρ s.tmp)
            obtain ⟨us, ws, rfl, a1, a2, a3⟩ := s.tr.grab_ok (β' := β') (M' := M') hm h1 hr k (fun j hj => by
              rw [hβ j (by simp; omega)]; congr 1; simp [List.getD, List.getElem?_append_left hj]) (fun j hj => by
              rw [hM j (by simp; omega)]
              simp only [TSh.putM]
              rw [blt_iff.2 (by omega)]; rfl)
            have hw0 : ws = [] := by have := a2.1; simpa using this.symm
            subst hw0
            rw [List.append_nil] at back
            obtain ⟨b1, b2⟩ := TSh.grab0_ok hm hρ r h2 (k + s.tr.wid) (fun j hj => by
              have := hβ (o1.length + j) (by simp; omega)
              rw [show k + s.tr.wid + j = k + (o1.length + j) by omega, this]
              congr 1
              simp [List.getD, List.getElem?_append_right]) (fun j hj => by
              have := hM (o1.length + j) (by simp; omega)
              rw [show k + s.tr.wid + j = k + (o1.length + j) by omega, this]
              simp only [TSh.putM]
              rw [blt_false (by omega)]; rfl)
            refine ⟨fun t => ?_, ⟨fun j hj => ?_, fun j hj cb hl => ?_⟩⟩
            · simp only [TSh.putT]
              by_cases e : t = s.tmp
              · subst e; rw [setT_same]; exact back a1
              · rw [setT_ne _ _ e]; exact b1 t
            · by_cases hlt : j < o1.length
              · exact a3.rb j hlt
              · have := b2.rb (j - o1.length) (by simp at hj; omega)
                rwa [show k + s.tr.wid + (j - o1.length) = k + j by omega] at this
            · by_cases hlt : j < o1.length
              · have := a3.from_ j hlt cb hl
                simpa [List.getD, List.getElem?_append_left hlt] using this
              · have := b2.from_ (j - o1.length) (by simp at hj; omega) cb
                rw [show k + s.tr.wid + (j - o1.length) = k + j by omega] at this
                have := this hl
                simpa [List.getD, List.getElem?_append_right (Nat.not_lt.1 hlt)] using this
          · cases hg
        · cases hg
      · cases hg

theorem hasO_iff {b : Nat} : ∀ {l : List (Option Nat)}, hasO b l = true ↔ some b ∈ l
  | [] => by simp [hasO]
  | none :: r => by simp only [hasO, List.mem_cons, reduceCtorEq, false_or]; exact hasO_iff
  | some x :: r => by
    simp only [hasO, Bool.or_eq_true, List.mem_cons, Option.some.injEq, hasO_iff]
    constructor
    · rintro (h | h)
      · exact .inl (Nat.eq_of_beq_eq_true h)
      · exact .inr h
    · rintro (h | h)
      · exact .inl (by rw [h]; exact beq_self _)
      · exact .inr h
theorem nodupO_inj : ∀ {l : List (Option Nat)}, nodupO l = true → ∀ {i j : Nat} {b : Nat}, l[i]? = some (some b) → l[j]? = some (some b) → i = j
  | [], _, i, j, b, h1, _ => by simp at h1
  | x :: r, h, i, j, b, h1, h2 => by
    have hr : nodupO r = true := by
      cases x with
      | none => exact h
      | some y => simp only [nodupO, Bool.and_eq_true] at h; exact h.2
    cases i with
    | zero =>
      cases j with
      | zero => rfl
      | succ j =>
        simp only [List.getElem?_cons_zero, Option.some.injEq] at h1
        subst h1
        simp only [List.getElem?_cons_succ] at h2
        simp only [nodupO, Bool.and_eq_true, Bool.not_eq_true'] at h
        have := hasO_iff.2 (List.mem_of_getElem? h2)
        rw [h.1] at this; cases this
    | succ i =>
      cases j with
      | zero =>
        simp only [List.getElem?_cons_zero, Option.some.injEq] at h2
        subst h2
        simp only [List.getElem?_cons_succ] at h1
        simp only [nodupO, Bool.and_eq_true, Bool.not_eq_true'] at h
        have := hasO_iff.2 (List.mem_of_getElem? h1)
        rw [h.1] at this; cases this
      | succ j =>
        simp only [List.getElem?_cons_succ] at h1 h2
        rw [nodupO_inj hr h1 h2]

theorem getD_some {l : List (Option Nat)} {j b : Nat} (h : l.getD j none = some b) : l[j]? = some (some b) := by
  cases hj : l[j]? with
  | none => rw [List.getD, hj] at h; cases h
  | some x => rw [List.getD, hj] at h; simp at h; rw [h]

theorem TSh.frz_ok {nt : Nat} {a : Act} {w : World} : ∀ (sh : TSh) {ρ : Nat → V} {M : Mem} {Z : Nat → Prop}, Rel β M Z nt ρ a w → ∃ Z', Rel β (sh.frz ρ M).2 Z' nt (sh.frz ρ M).1 a w ∧ EvW β M Z w β (sh.frz ρ M).2 Z' w
  | [], ρ, M, Z, hr => ⟨Z, hr, EvW.refl _ _ _ _⟩
  | s :: r, ρ, M, Z, hr => by
    simp only [TSh.frz]
    cases s.fr with
    | false => exact TSh.frz_ok r hr
    | true =>
      simp only [cond_true]
      obtain ⟨Z1, f, hv⟩ := frzP_ok hr.mem (hr.tmps s.tmp)
      have hr1 : Rel β (M.upds (frzP M (ρ s.tmp)).2) Z1 nt (setT ρ s.tmp (frzP M (ρ s.tmp)).1) a w := by
        refine ⟨fun t => ?_, hr.size, f.mem⟩
        by_cases e : t = s.tmp
        · subst e; rw [setT_same]; exact hv
        · rw [setT_ne _ _ e]; exact (hr.tmps t).mono f.ev.toEv.toGrow
      obtain ⟨Z2, h1, h2⟩ := TSh.frz_ok r hr1
      exact ⟨Z2, h1, f.ev.trans h2⟩

/-- grabbed and put down -/
theorem TSh.ok {nt : Nat} {ρ : Nat → V} {a : Act} {w : World} (hr : Rel β M Z nt ρ a w) {sh : TSh} {x : sh.den} (hg : TSh.grab ρ M sh = some x) (k : Nat) :
    ∃ β' Z' M1, EvW β M Z w β M1 Z' w ∧ Rel β' (TSh.putM sh k x) Z' nt (TSh.putT sh k x) a w ∧ ∀ cb, owned β' (TSh.putM sh k x) cb → owned β M1 cb := by
  unfold TSh.grab at hg
  obtain ⟨Z1, hr1, hev⟩ := TSh.frz_ok sh hr
  generalize hfz : TSh.frz sh ρ M = fz at hg hr1 hev
  obtain ⟨ρ1, M1⟩ := fz
  simp only at hg hr1 hev
  cases h0 : TSh.grab0 ρ1 M1 sh with
  | none => rw [h0] at hg; cases hg
  | some p =>
    obtain ⟨y, obs⟩ := p
    rw [h0] at hg
    simp only at hg
    cases hn : nodupO obs with
    | false => rw [hn] at hg; cases hg
    | true =>
      rw [hn] at hg
      simp only [cond_true, Option.some.injEq] at hg
      subst hg
      have hl := TSh.grab0_len sh h0
      let β' : Nat → Option Loc := fun n => if k ≤ n ∧ n - k < obs.length then locOf β (obs.getD (n - k) none) else none
      have hβ' : ∀ j, j < obs.length → β' (k + j) = locOf β (obs.getD j none) := fun j hj => by
        simp only [β']
        rw [if_pos ⟨by omega, by omega⟩]
        congr 2; omega
      obtain ⟨a1, a2⟩ := TSh.grab0_ok (β' := β') (M' := TSh.putM sh k y) hr1.mem hr1.tmps sh h0 k hβ' fun _ _ => rfl
      have inr : ∀ n, (TSh.putM sh k y n).gen ≠ none → ∃ j, j < obs.length ∧ n = k + j := fun n hne => by
        by_cases h1 : n < k
        · rw [TSh.putM_lt sh k y n h1] at hne; exact absurd rfl hne
        · by_cases h2 : k + sh.wid ≤ n
          · rw [TSh.putM_ge sh k y n h2] at hne; exact absurd rfl hne
          · exact ⟨n - k, by omega, by omega⟩
      have lie : ∀ n cb, lies β' (TSh.putM sh k y) n cb → ∃ j b, j < obs.length ∧ n = k + j ∧ obs[j]? = some (some b) ∧ (M1 b).own = true ∧ lies β M1 b cb := fun n cb hl' => by
        obtain ⟨j, hj, rfl⟩ := inr n hl'.1
        obtain ⟨b, q1, q2, q3⟩ := a2.from_ j hj cb hl'
        exact ⟨j, b, hj, rfl, getD_some q1, q2, q3⟩
      refine ⟨β', Z1, M1, hev, ⟨a1, hr1.size, ⟨fun n => ?_, fun b b' cb ho h1 h2 => ?_, fun cb hz ho => ?_, hr1.mem.zlt⟩⟩, fun cb ho => ?_⟩
      · by_cases h1 : n < k
        · unfold RB; rw [TSh.putM_lt sh k y n h1]; trivial
        · by_cases h2 : k + sh.wid ≤ n
          · unfold RB; rw [TSh.putM_ge sh k y n h2]; trivial
          · have := a2.rb (n - k) (by omega)
            rwa [show k + (n - k) = n by omega] at this
      · obtain ⟨j, c, _, rfl, q1, q2, q3⟩ := lie b cb h1
        obtain ⟨j', c', _, rfl, q1', q2', q3'⟩ := lie b' cb h2
        have := hr1.mem.sep c c' cb q2 q3 q3'
        subst this
        rw [nodupO_inj hn q1 q1']
      · obtain ⟨b, h1, h2⟩ := ho
        obtain ⟨j, c, _, rfl, q1, q2, q3⟩ := lie b cb h2
        exact hr1.mem.zown cb hz ⟨c, q2, q3⟩
      · obtain ⟨b, h1, h2⟩ := ho
        obtain ⟨j, c, _, rfl, q1, q2, q3⟩ := lie b cb h2
        exact ⟨c, q2, q3⟩
end
end Go.Pv
/-! ### Loops over structured states; splitting cases; functions by themselves, with structured results. -/
namespace Go.Pv

structure LoopT where
  id : Nat
  inv : TSh
  out : TSh
  ret : TSh

/-- before a region: a temporary has one of some values -/
structure Split where
  id : Nat
  tmp : Nat
  vals : List Int

def stepT (T : TypeId → TT) (callE : (R : Type) → CallE R) (nt : Nat) (hook : (R : Type) → HookE R) (fuel : Nat) (ls : LoopT) (body : Code) (x : ls.inv.den) : Option (ls.inv.den ⊕ (ls.out.den ⊕ ls.ret.den)) :=
  codeE T (callE _) nt (hook _) fuel body (TSh.putT ls.inv 0 x) (TSh.putM ls.inv 0 x) ls.inv.wid fun ex ρ M _ =>
    match ex with
    | .normal => match TSh.grab ρ M ls.inv with
      | some x => some (.inl x)
      | none => none
    | .exit id => bif Nat.beq id ls.id then (match TSh.grab ρ M ls.out with
      | some y => some (.inr (.inl y))
      | none => none) else none
    | .ret => match TSh.grab ρ M ls.ret with
      | some y => some (.inr (.inr y))
      | none => none

noncomputable def loopHT {R : Type} (T : TypeId → TT) (callE : (R : Type) → CallE R) (nt : Nat) (hook : (R : Type) → HookE R) (fuel : Nat) (ls : LoopT) (body : Code) : (Nat → V) → Mem → Nat → Kont R → Option R := fun ρ M _ K =>
  match TSh.grab ρ M ls.inv with
  | none => none
  | some x => match lim (stepT T callE nt hook fuel ls body) x with
    | none => none
    | some (.inl y) => K .normal (TSh.putT ls.out 0 y) (TSh.putM ls.out 0 y) ls.out.wid
    | some (.inr y) => K .ret (TSh.putT ls.ret 0 y) (TSh.putM ls.ret 0 y) ls.ret.wid

def splitGo {R : Type} (T : TypeId → TT) (callE : CallE R) (nt fuel : Nat) (t : Nat) (k : IntKind) (n : Int) (code : Code) : List Int → (Nat → V) → Mem → Nat → Kont R → Option R
  | [], _, _, _, _ => none
  | v :: r, ρ, M, nx, K => bif decide (n = v) then codeE T callE nt (fun _ => none) fuel code (setT ρ t (.int k v)) M nx K else splitGo T callE nt fuel t k n code r ρ M nx K

def splitH {R : Type} (T : TypeId → TT) (callE : CallE R) (nt fuel : Nat) (s : Split) (code : Code) : (Nat → V) → Mem → Nat → Kont R → Option R := fun ρ M nx K =>
  match ρ s.tmp with
  | .int k n => splitGo T callE nt fuel s.tmp k n code s.vals ρ M nx K
  | _ => none

def findT (id : Nat) : List LoopT → Option LoopT
  | [] => none
  | ls :: r => bif Nat.beq ls.id id then some ls else findT id r
def findSp (id : Nat) : List Split → Option Split
  | [] => none
  | s :: r => bif Nat.beq s.id id then some s else findSp id r

noncomputable def hookT (T : TypeId → TT) (callE : (R : Type) → CallE R) (fuel : Nat) (lts : List LoopT) (sps : List Split) (nt : Nat) : Nat → (R : Type) → HookE R
  | 0 => fun _ _ => none
  | n + 1 => fun R code => match code with
    | .block id (.loop body) => match findT id lts with
      | some ls => some (loopHT T callE nt (hookT T callE fuel lts sps nt n) fuel ls body)
      | none => none
    | .region id ops dr => match findSp id sps with
      | some s => some (splitH T (callE R) nt fuel s (.region id ops dr))
      | none => none
    | _ => none

section
variable {P : Program} {T : TypeId → TT} {R : Type} {nt : Nat}

theorem stepT_ok (hT : TOK P T) (hm : P.follows .mixedOrders = true) {callE : (R : Type) → CallE R} (hcall : ∀ R, CallsOK P (callE R)) {hook : (R : Type) → HookE R} (hh : ∀ R, HookOK P nt Say.Loose (hook R))
    {fuel : Nat} {ls : LoopT} {body : Code} {Q : Exit → Act → World → Prop} {J : Say} (hJ : J.Loose) {y : ls.out.den ⊕ ls.ret.den} :
    ∀ (n : Nat) (x : ls.inv.den), iter (stepT T callE nt hook fuel ls body) n x = some y → ∀ (β : Nat → Option Loc) (Z : Nat → Prop) (a : Act) (w : World),
      Rel β (TSh.putM ls.inv 0 x) Z nt (TSh.putT ls.inv 0 x) a w → J β (TSh.putM ls.inv 0 x) Z w →
      (∀ β' Z' a' w', (match y with
        | .inl y => Rel β' (TSh.putM ls.out 0 y) Z' nt (TSh.putT ls.out 0 y) a' w' ∧ J β' (TSh.putM ls.out 0 y) Z' w'
        | .inr y => Rel β' (TSh.putM ls.ret 0 y) Z' nt (TSh.putT ls.ret 0 y) a' w' ∧ J β' (TSh.putM ls.ret 0 y) Z' w') → a'.defers = a.defers →
        match y with
        | .inl _ => Q .normal a' w'
        | .inr _ => Q .ret a' w') → Rounds P body (Exit.inBlock ls.id Q) n a w
  | 0, x, h => by cases h
  | n + 1, x, h => by
    intro β Z a w hr hj hQ
    simp only [iter] at h
    cases hs : stepT T callE nt hook fuel ls body x with
    | none => rw [hs] at h; cases h
    | some z =>
      rw [hs] at h
      obtain ⟨ex, ρ', M', nx', hk, hw⟩ := codeE_ok (𝒥 := Say.Loose) hT hm (hcall _) (fun J h => h.1) (hh _) fuel body _ _ _ _ _ hs
      refine hw J hJ β Z a w _ hr hj fun β' Z' a' w' hr' hj' hd => ?_
      cases ex with
      | normal =>
        simp only at hk
        cases hg : TSh.grab ρ' M' ls.inv with
        | none => rw [hg] at hk; cases hk
        | some x' =>
          rw [hg] at hk
          cases hk
          obtain ⟨β2, Z2, M2, he, h1, h2⟩ := TSh.ok hr' hg 0
          exact stepT_ok hT hm hcall hh hJ n x' h β2 Z2 a' w' h1 (hJ.2 (hJ.1 hj' he) h2) fun β3 Z3 a3 w3 q1 q2 => hQ β3 Z3 a3 w3 q1 (q2.trans hd)
      | exit id =>
        simp only at hk
        cases hb : Nat.beq id ls.id with
        | false => rw [hb] at hk; cases hk
        | true =>
          rw [hb] at hk
          simp only [cond_true] at hk
          have := Nat.eq_of_beq_eq_true hb
          subst this
          cases hg : TSh.grab ρ' M' ls.out with
          | none => rw [hg] at hk; cases hk
          | some y' =>
            rw [hg] at hk
            cases hk
            simp only [Option.some.injEq] at h
            subst h
            obtain ⟨β2, Z2, M2, he, h1, h2⟩ := TSh.ok hr' hg 0
            have := hQ β2 Z2 a' w' ⟨h1, hJ.2 (hJ.1 hj' he) h2⟩ hd
            simpa [Ex.out, Exit.then, Exit.inBlock] using this
      | ret =>
        simp only at hk
        cases hg : TSh.grab ρ' M' ls.ret with
        | none => rw [hg] at hk; cases hk
        | some y' =>
          rw [hg] at hk
          cases hk
          simp only [Option.some.injEq] at h
          subst h
          obtain ⟨β2, Z2, M2, he, h1, h2⟩ := TSh.ok hr' hg 0
          have := hQ β2 Z2 a' w' ⟨h1, hJ.2 (hJ.1 hj' he) h2⟩ hd
          simpa [Ex.out, Exit.then, Exit.inBlock] using this

theorem loopHT_ok (hT : TOK P T) (hm : P.follows .mixedOrders = true) {callE : (R : Type) → CallE R} (hcall : ∀ R, CallsOK P (callE R)) {hook : (R : Type) → HookE R} (hh : ∀ R, HookOK P nt Say.Loose (hook R))
    {fuel : Nat} {ls : LoopT} {body : Code} : CodeOK (R := R) P nt Say.Loose (.block ls.id (.loop body)) (loopHT T callE nt hook fuel ls body) := by
  intro ρ M nx K r h
  unfold loopHT at h
  cases hg : TSh.grab ρ M ls.inv with
  | none => rw [hg] at h; cases h
  | some x =>
    rw [hg] at h
    simp only at h
    cases hl : lim (stepT T callE nt hook fuel ls body) x with
    | none => rw [hl] at h; cases h
    | some y =>
      rw [hl] at h
      obtain ⟨n, hn⟩ := lim_some.1 hl
      cases y with
      | inl y =>
        refine ⟨_, _, _, _, h, fun J hJ β Z a w Q hr hj hQ => ?_⟩
        obtain ⟨β2, Z2, M2, he, h1, h2⟩ := TSh.ok hr hg 0
        exact wp_block (wp_rounds (stepT_ok hT hm hcall hh hJ n x hn β2 Z2 a w h1 (hJ.2 (hJ.1 hj he) h2) fun β' Z' a' w' q1 q2 => hQ β' Z' a' w' q1.1 q1.2 q2))
      | inr y =>
        refine ⟨_, _, _, _, h, fun J hJ β Z a w Q hr hj hQ => ?_⟩
        obtain ⟨β2, Z2, M2, he, h1, h2⟩ := TSh.ok hr hg 0
        exact wp_block (wp_rounds (stepT_ok hT hm hcall hh hJ n x hn β2 Z2 a w h1 (hJ.2 (hJ.1 hj he) h2) fun β' Z' a' w' q1 q2 => hQ β' Z' a' w' q1.1 q1.2 q2))

theorem splitGo_ok (hT : TOK P T) (hm : P.follows .mixedOrders = true) {callE : CallE R} (hcall : CallsOK P callE) {fuel t : Nat} {k : IntKind} {n : Int} {code : Code} : ∀ {vals : List Int} {ρ : Nat → V} {M : Mem} {nx : Nat} {K : Kont R} {r : R},
    ρ t = .int k n → splitGo T callE nt fuel t k n code vals ρ M nx K = some r → ∃ ex ρ' M' nx', K ex ρ' M' nx' = some r ∧
    ∀ (J : Say), Say.Loose J → ∀ (β : Nat → Option Loc) (Z : Nat → Prop) (a : Act) (w : World) (Q : Exit → Act → World → Prop), Rel β M Z nt ρ a w → J β M Z w →
      (∀ β' Z' a' w', Rel β' M' Z' nt ρ' a' w' → J β' M' Z' w' → a'.defers = a.defers → Q ex.out a' w') → code.wp P Q a w
  | [], ρ, M, nx, K, r, _, h => by cases h
  | v :: vs, ρ, M, nx, K, r, ht, h => by
    simp only [splitGo] at h
    cases hd : decide (n = v) with
    | false => rw [hd] at h; exact splitGo_ok hT hm hcall ht h
    | true =>
      rw [hd] at h
      have := of_decide_eq_true hd
      subst this
      obtain ⟨ex, ρ', M', nx', hk, hw⟩ := codeE_ok (𝒥 := Say.Loose) hT hm hcall (fun J h => h.1) (noHook_ok (P := P) (nt := nt) (𝒥 := Say.Loose)) fuel code _ _ _ _ _ h
      exact ⟨ex, ρ', M', nx', hk, fun J hJ β Z a w Q hr hj hQ => hw J hJ β Z a w Q (hr.know ht) hj hQ⟩

theorem findT_id : ∀ {lss : List LoopT} {id : Nat} {ls : LoopT}, findT id lss = some ls → ls.id = id
  | [], _, _, h => by cases h
  | l :: r, id, ls, h => by
    simp only [findT] at h
    cases hb : Nat.beq l.id id with
    | true => rw [hb] at h; cases h; exact Nat.eq_of_beq_eq_true hb
    | false => rw [hb] at h; exact findT_id h

theorem hookT_ok (hT : TOK P T) (hm : P.follows .mixedOrders = true) {callE : (R : Type) → CallE R} (hcall : ∀ R, CallsOK P (callE R)) {fuel : Nat} {lts : List LoopT} {sps : List Split} :
    ∀ (n : Nat) (R : Type), HookOK P nt Say.Loose (hookT T callE fuel lts sps nt n R)
  | 0, R => fun code h hh => by cases hh
  | n + 1, R => fun code h hh => by
    unfold hookT at hh
    split at hh
    · rename_i id body
      cases hf : findT id lts with
      | none => rw [hf] at hh; cases hh
      | some ls =>
        rw [hf] at hh
        cases hh
        have := findT_id hf
        subst this
        exact loopHT_ok hT hm hcall (hookT_ok hT hm hcall n)
    · rename_i id ops dr
      cases hf : findSp id sps with
      | none => rw [hf] at hh; cases hh
      | some s =>
        rw [hf] at hh
        cases hh
        intro ρ M nx K r h
        unfold splitH at h
        split at h
        · rename_i k m ht
          exact splitGo_ok hT hm (hcall R) ht h
        · cases h
    · cases hh

end

/-! ### Functions by themselves -/
noncomputable section
def evalT (P : Program) (T : TypeId → TT) (callE : (R : Type) → CallE R) (lts : List LoopT) (sps : List Split) (f : FuncId) (sa : Sig) (sr : TSh) (x : sa.den) : Option sr.den :=
  match P.funcs[f]? with
  | none => none
  | some fn => match fn.body with
    | none => none
    | some code => bif Nat.ble (argsV sa x).length fn.ntmps then
        codeE T (callE _) fn.ntmps (hookT T callE 100000 lts sps fn.ntmps 5 _) 100000 code (paramsE (argsV sa x) 0) (fun _ => .none) 0 fun ex ρ M _ => match ex with
          | .exit _ => none
          | _ => match resE T ρ M fn.results.toList with
            | none => none
            | some vs => TSh.grab (paramsE vs 0) M sr
      else none
end

section
variable {P : Program} {T : TypeId → TT}

theorem evalT_ok (hT : TOK P T) (hm : P.follows .mixedOrders = true) (hname : ∀ (f : FuncId) fn, P.funcs[f]? = some fn → (fn.name == "runtime.NumGoroutine") = false)
    {callE : (R : Type) → CallE R} (hcall : ∀ R, CallsOK P (callE R)) {lts : List LoopT} {sps : List Split} {f : FuncId} {sa : Sig} {sr : TSh} {x : sa.den} {y : sr.den}
    (h : evalT P T callE lts sps f sa sr x = some y) : Callable P f ∧ ∀ (k : Nat) (β : Nat → Option Loc) (Z : Nat → Prop) (w : World) (cargs : List Value), ZOk Z w.heap →
      RL β (fun _ => .none) Z w.heap (argsV sa x) cargs →
      Calls P f cargs.toArray w fun e w' => ∃ us β' Z', e = .returned (retVal us) ∧ (∃ fn, P.funcs[f]? = some fn ∧ us.length = fn.results.size) ∧
        (∀ t, RV β' (TSh.putM sr k y) Z' w'.heap (TSh.putT sr k y t) (us.getD t undef)) ∧
        RMem β' (TSh.putM sr k y) Z' w'.heap ∧ Since w Z β' (TSh.putM sr k y) Z' w' := by
  unfold evalT at h
  cases hf : P.funcs[f]? with
  | none => rw [hf] at h; cases h
  | some fn =>
    rw [hf] at h
    simp only at h
    cases hb : fn.body with
    | none => rw [hb] at h; cases h
    | some code =>
      rw [hb] at h
      simp only at h
      cases hn : Nat.ble (argsV sa x).length fn.ntmps with
      | false => rw [hn] at h; cases h
      | true =>
        rw [hn] at h
        simp only [cond_true] at h
        have hn := Nat.le_of_ble_eq_true hn
        refine ⟨⟨fn, hf, by rw [hb]; rfl, hname f fn hf⟩, fun k β Z w cargs hz hargs => ?_⟩
        obtain ⟨ex, ρ', M', nx', hk, hw⟩ := codeE_ok (𝒥 := Say.Loose) hT hm (hcall _) (fun J h => h.1) (hookT_ok (lts := lts) (sps := sps) hT hm hcall 5 _) 100000 code _ _ _ _ _ h
        have hex : ∀ id, ex ≠ .exit id := fun id e => by subst e; cases hk
        have hk' : (match resE T ρ' M' fn.results.toList with
            | none => none
            | some vs => TSh.grab (paramsE vs 0) M' sr) = some y := by
          cases ex with
          | normal => exact hk
          | exit id => exact absurd rfl (hex id)
          | ret => exact hk
        cases hres : resE T ρ' M' fn.results.toList with
        | none => rw [hres] at hk'; cases hk'
        | some vs =>
          rw [hres] at hk'
          simp only at hk'
          have hrel : Rel β (fun _ => .none) Z fn.ntmps (paramsE (argsV sa x) 0) { tmps := cargs.toArray ++ Array.replicate (fn.ntmps - cargs.toArray.size) undef, defers := [] } w :=
            Rel.begin (noneMem hz) (by simpa using hargs) hn
          have hs0 : Since w Z β (fun _ => .none) Z w := ⟨fun _ h => h, fun _ h => .inl h, Nat.le_refl _, fun _ _ => rfl, fun cb ho => (by obtain ⟨b, ho, _⟩ := ho; cases ho), Wd.refl _⟩
          refine calls_of_wp hf hb (hw (Since w Z) (Since.loose w Z) β Z _ w _ hrel hs0 fun β' Z' a' w' hr' hj' hd => ?_)
          obtain ⟨us, hus, hrl⟩ := resE_ok hT _ _ hres hr'
          have hrun : (results fn a'.tmps).run P w' = .ok (retVal us) w' := by
            rw [results_eq, Sem.run_bind, Array.mapM_eq_mapM_toList, Sem.run_map, hus]
            rfl
          have hrel2 : Rel β' M' Z' us.length (paramsE vs 0) { tmps := us.toArray, defers := [] } w' := by
            have := Rel.begin (n := us.length) hr'.mem (vs := us.toArray) (by simpa using hrl) (by rw [hrl.1]; exact Nat.le_refl _)
            simpa using this
          obtain ⟨β2, Z2, M2, he, g1, g2⟩ := TSh.ok hrel2 hk' k
          have hlen : us.length = fn.results.size := by rw [← hrl.1, resE_length hres]; simp
          have hpost : a'.defers = [] ∧ ∃ v, (results fn a'.tmps).run P w' = .ok v w' ∧ ∃ us β' Z', (Ending.returned v) = .returned (retVal us) ∧ (∃ fn', some fn = some fn' ∧ us.length = fn'.results.size) ∧
              (∀ t, RV β' (TSh.putM sr k y) Z' w'.heap (TSh.putT sr k y t) (us.getD t undef)) ∧
              RMem β' (TSh.putM sr k y) Z' w'.heap ∧ Since w Z β' (TSh.putM sr k y) Z' w' := by
            refine ⟨hd, _, hrun, us, β2, Z2, rfl, ⟨fn, rfl, hlen⟩, fun t => ?_, g1.mem, (Since.loose w Z).2 ((Since.loose w Z).1 hj' he) g2⟩
            have := g1.tmps t
            simpa using this
          cases ex with
          | normal => exact hpost
          | exit id => exact absurd rfl (hex id)
          | ret => exact hpost

/-! ### What a caller is told -/
def FnT (P : Program) (f : FuncId) (sa : Sig) (sr : TSh) (F : sa.den → Option sr.den) : Prop :=
  ∀ x y, F x = some y → Callable P f ∧ ∀ (k : Nat) (β : Nat → Option Loc) (Z : Nat → Prop) (w : World) (cargs : List Value), ZOk Z w.heap →
      RL β (fun _ => .none) Z w.heap (argsV sa x) cargs →
      Calls P f cargs.toArray w fun e w' => ∃ us β' Z', e = .returned (retVal us) ∧ (∃ fn, P.funcs[f]? = some fn ∧ us.length = fn.results.size) ∧
        (∀ t, RV β' (TSh.putM sr k y) Z' w'.heap (TSh.putT sr k y t) (us.getD t undef)) ∧
        RMem β' (TSh.putM sr k y) Z' w'.heap ∧ Since w Z β' (TSh.putM sr k y) Z' w'

/-- results stand in the frame's first places -/
def resT (sr : TSh) (k : Nat) (y : sr.den) (n : Nat) : List V := (List.range n).map (TSh.putT sr k y)

/-- arguments are data (live slices are frozen); results are structured -/
def specT {R : Type} (sa : Sig) (sr : TSh) (F : sa.den → Option sr.den) : List V → Mem → Nat → (Eff → Option R) → Option R := fun args M id c =>
  match frzA M args with
  | (args, u) => bif args.all V.solid then (match argsG (M.upds u) sa args with
    | none => none
    | some (x, fps) => match fps with
      | [] => (match F x with
        | none => none
        | some y => forceN ((id + 1) * 100000) fun k => forceNs ((List.range sr.wid).map fun j => k + j) fun ids =>
          bif ids.all (fun b => (M b).isNone) && u.all (fun p => Nat.blt p.1 k) then
            c { val := retV (resT sr k y sr.length), upd := u ++ ids.map fun b => (b, TSh.putM sr k y b), fp := ids ++ u.map (·.1) } else none)
      | _ => none) else none
end
end Go.Pv
/-! ### What a caller is told of a function with structured results: it is right. -/
namespace Go.Pv

theorem refsL_append (l r : List V) : refsL (l ++ r) = refsL l ++ refsL r := by
  induction l with
  | nil => rfl
  | cons a l ih => simp only [List.cons_append, refsL, ih, List.append_assoc]

theorem Tr.cells_refs : ∀ (t : Tr) (k : Nat) (x : t.den) (b : Nat), b ∈ refsL (t.cells k x) → k ≤ b ∧ b < k + t.wid
  | .unit, _, _, b, h => by simp [Tr.cells, refsL] at h
  | .dat τ, _, x, b, h => by simp only [Tr.cells, enc_refs] at h; cases h
  | .row τ, k, _, b, h => by simp [Tr.cells, refsL, V.refs] at h; simp only [Tr.wid]; omega
  | .mp _ _, k, _, b, h => by simp [Tr.cells, refsL, V.refs] at h; simp only [Tr.wid]; omega
  | .box t, k, _, b, h => by simp [Tr.cells, refsL, V.refs] at h; simp only [Tr.wid]; omega
  | .fn _ a, k, x, b, h => by
    simp only [Tr.cells, refsL, V.refs, List.append_nil] at h
    exact a.cells_refs k x b h
  | .pair a c, k, x, b, h => by
    simp only [Tr.cells, refsL_append, List.mem_append] at h
    simp only [Tr.wid]
    rcases h with h | h
    · have := a.cells_refs k x.1 b h; omega
    · have := c.cells_refs (k + a.wid) x.2 b h; omega

theorem Tr.mem_refs : ∀ (t : Tr) (k : Nat) (x : t.den) (n b : Nat), b ∈ (t.mem k x n).refs → k ≤ b ∧ b < k + t.wid
  | .unit, _, _, _, b, h => by simp [Tr.mem, Blk.refs] at h
  | .dat τ, _, x, _, b, h => by simp [Tr.mem, Blk.refs] at h
  | .row τ, k, _, n, b, h => by
    simp only [Tr.mem] at h
    cases e : Nat.beq n k <;> rw [e] at h <;> simp [Blk.refs] at h
  | .mp _ _, k, _, n, b, h => by
    simp only [Tr.mem] at h
    cases e : Nat.beq n k <;> rw [e] at h <;> simp [Blk.refs] at h
  | .box t, k, x, n, b, h => by
    simp only [Tr.mem] at h
    simp only [Tr.wid]
    cases e : Nat.beq n k with
    | true =>
      rw [e] at h
      simp only [cond_true, Blk.refs] at h
      have := t.cells_refs (k + 1) x b h; omega
    | false =>
      rw [e] at h
      have := t.mem_refs (k + 1) x n b h; omega
  | .fn _ a, k, x, n, b, h => by
    simp only [Tr.mem] at h
    exact a.mem_refs k x n b h
  | .pair a c, k, x, n, b, h => by
    simp only [Tr.mem] at h
    simp only [Tr.wid]
    cases e : Nat.blt n (k + a.wid) with
    | true => rw [e] at h; have := a.mem_refs k x.1 n b h; omega
    | false => rw [e] at h; have := c.mem_refs (k + a.wid) x.2 n b h; omega

theorem TSh.putM_refs : ∀ (sh : TSh) (k : Nat) (x : sh.den) (n b : Nat), b ∈ (TSh.putM sh k x n).refs → k ≤ b ∧ b < k + sh.wid
  | [], _, _, _, b, h => by simp [TSh.putM, Blk.refs] at h
  | s :: r, k, x, n, b, h => by
    simp only [TSh.putM] at h
    simp only [TSh.wid]
    cases e : Nat.blt n (k + s.tr.wid) with
    | true => rw [e] at h; have := s.tr.mem_refs k x.1 n b h; omega
    | false => rw [e] at h; have := TSh.putM_refs r (k + s.tr.wid) x.2 n b h; omega

theorem mkv_refs {ag : Bool} {cs : List V} {b : Nat} (h : b ∈ (mkv ag cs).refs) : b ∈ refsL cs := by
  cases ag with
  | true => exact h
  | false =>
    cases cs with
    | nil => simp [mkv, V.refs] at h
    | cons c r => simp only [mkv, cond_false, List.headD_cons] at h; simp only [refsL, List.mem_append]; exact .inl h

theorem TSh.putT_refs : ∀ (sh : TSh) (k : Nat) (x : sh.den) (t b : Nat), b ∈ (TSh.putT sh k x t).refs → k ≤ b ∧ b < k + sh.wid
  | [], _, _, _, b, h => by simp [TSh.putT, V.refs] at h
  | s :: r, k, x, t, b, h => by
    simp only [TSh.putT] at h
    simp only [TSh.wid]
    by_cases e : t = s.tmp
    · subst e
      rw [setT_same] at h
      have := s.tr.cells_refs k x.1 b (mkv_refs h); omega
    · rw [setT_ne _ _ e] at h
      have := TSh.putT_refs r (k + s.tr.wid) x.2 t b h; omega

section
variable {P : Program}

theorem specT_ok {R : Type} {f : FuncId} {sa : Sig} {sr : TSh} {F : sa.den → Option sr.den} (hfn : FnT P f sa sr F)
    (hcount : ∀ fn, P.funcs[f]? = some fn → fn.results.size = sr.length) :
    ∀ args M id (c : Eff → Option R) r, specT sa sr F args M id c = some r → ∃ eff, CallOK P f args M eff ∧ c eff = some r := by
  intro args M id c r h
  unfold specT at h
  generalize hfz : frzA M args = fz at h
  obtain ⟨args', u⟩ := fz
  simp only at h
  cases hsol : args'.all V.solid with
  | false => rw [hsol] at h; cases h
  | true =>
    rw [hsol] at h
    simp only [cond_true] at h
    cases ha : argsG (M.upds u) sa args' with
    | none => rw [ha] at h; cases h
    | some p =>
      obtain ⟨x, fps⟩ := p
      rw [ha] at h
      simp only at h
      cases fps with
      | cons _ _ => cases h
      | nil =>
        simp only at h
        cases hF : F x with
        | none => rw [hF] at h; cases h
        | some y =>
          rw [hF] at h
          simp only [forceN_eq, forceNs_eq] at h
          generalize (id + 1) * 100000 = k at h
          cases hi : ((List.range sr.wid).map fun j => k + j).all (fun b => (M b).isNone) && u.all (fun p => Nat.blt p.1 k) with
          | false => rw [hi] at h; cases h
          | true =>
            rw [hi] at h
            simp only [cond_true] at h
            simp only [Bool.and_eq_true] at hi
            obtain ⟨hcallable, hcalls⟩ := hfn x y hF
            have hids : ∀ b, b ∈ ((List.range sr.wid).map fun j => k + j) ↔ k ≤ b ∧ b < k + sr.wid := fun b => by
              simp only [List.mem_map, List.mem_range]
              constructor
              · rintro ⟨j, hj, rfl⟩; omega
              · rintro ⟨h1, h2⟩; exact ⟨b - k, by omega, by omega⟩
            generalize hidsE : ((List.range sr.wid).map fun j => k + j) = ids at h hi hids
            have hu : ∀ b ∈ u.map (·.1), b < k := fun b hb => by
              obtain ⟨p, hp, rfl⟩ := List.mem_map.1 hb
              exact blt_iff.1 (List.all_eq_true.1 hi.2 p hp)
            refine ⟨_, ⟨fun b hb => ?_, hcallable, fun M2 hM β Z w cargs hmem hargs => ?_⟩, h⟩
            · simp only [List.map_append, List.map_map, List.mem_append] at hb ⊢
              rcases hb with hb | hb
              · exact .inr hb
              · left
                simpa using hb
            · simp only [List.mem_append] at hM
              have hfz2 : frzA M2 args = (args', u) := by
                have e := frzA_congr (cs := args) (M := M) (M2 := M2) (by rw [hfz]; exact hsol) (by rw [hfz]; exact fun b hb => hM b (.inr hb))
                rw [e, hfz]
              obtain ⟨Z1, f1, r1⟩ := frzA_ok (w := w) hmem hargs
              rw [hfz2] at f1 r1
              simp only at f1 r1
              have ha2 : argsG (M2.upds u) sa args' = some (x, []) := argsG_congr ha fun b hb => by cases hb
              have hargs' := argsG_ok f1.mem (Z1 := Z1) (fun cb hz => hz) β (fun _ => .none) ha2 r1 fun b hb => by cases hb
              refine (hcalls k β Z1 w cargs f1.mem.zlt hargs').mono fun e w' ⟨us, β', Z', h1, ⟨fn, h2, h3⟩, h4, h5, h6⟩ => ?_
              obtain ⟨s1, s2, s3, s4, s5, s6⟩ := h6
              have hfree : ∀ b ∈ ids, (M2.upds u) b = .none := fun b hb => by
                have hb' := (hids b).1 hb
                rw [upds_not fun hin => by have := hu b hin; omega, hM b (.inl hb)]
                exact isNone_iff (List.all_eq_true.1 hi.1 b hb)
              have hev : Ev β ((M2.upds u).only []) Z1 w.heap β' (TSh.putM sr k y) Z' w'.heap := by
                have hn : ∀ b, (M2.upds u).only [] b = .none := fun b => only_out (by simp)
                refine { zkeep := fun cb hz => s4 cb (f1.mem.zlt.lt cb hz), zmono := s1, nn := fun b hb => absurd (hn b) hb, gone := fun b hb _ => absurd (hn b) hb, gens := fun b g hg => (by rw [hn b] at hg; cases hg), size := s3, frame := fun cb hlt _ => s4 cb hlt, own := fun cb ho => .inl (s5 cb ho), znew := fun cb hz => ?_ }
                rcases s2 cb hz with h | h
                · exact .inl h
                · exact .inr (.inl h)
              obtain ⟨l1, l2, l3⟩ := leave f1.mem h5 hev (ids := ids) (fun b _ x hx => (hids x).2 (TSh.putM_refs sr k y b x hx)) (fun b hb => by cases hb) (fun b hb => .inr (hfree b hb))
              refine ⟨_, joinB β β' ids, Z', h1, ?_, ?_, ?_⟩ <;> rw [upds_append, upds_join]
              · have hrl : RL (joinB β β' ids) ((M2.upds u).join (TSh.putM sr k y) ids) Z' w'.heap (resT sr k y sr.length) us := by
                  refine ⟨by rw [h3, hcount fn h2]; simp [resT], fun t v u' hv hu' => ?_⟩
                  have e : v = TSh.putT sr k y t := by
                    unfold resT at hv
                    rw [List.getElem?_map] at hv
                    cases hr : (List.range sr.length)[t]? with
                    | none => rw [hr] at hv; cases hv
                    | some q =>
                      rw [hr] at hv
                      have hlt := (List.getElem?_eq_some_iff.1 hr).1
                      have hq : q = t := by
                        have := (List.getElem?_eq_some_iff.1 hr).2
                        simp at this; exact this.symm
                      subst hq
                      simp at hv; exact hv.symm
                  subst e
                  have := h4 t
                  have hg : us.getD t undef = u' := by simp [hu']
                  rw [hg] at this
                  exact l3 _ _ this fun b hb => (hids b).2 (TSh.putT_refs sr k y t b hb)
                exact retV_ok hrl
              · exact l1
              · exact f1.ev.trans ⟨l2, s6⟩
end
end Go.Pv
/-! ### What is known of layer 18 in this seat: Decode on words at hand, Form. -/
namespace Go.Pv
open Go.Proofs
set_option maxRecDepth 1000000
@[reducible] def tForm : Ty := .pair (.int .u8) (.pair (.int .u8) (.pair (.int .u8) (.pair (.int .u8) .bool)))
def insL : List Int := [0, 0, 0, 1, 2, 0, 0, 0, 0, 0, 1, 1, 1, 1, 1, 1, 1, 1, 1, 1, 2, 2, 2, 2, 2, 1, 2, 2, 2, 2, 1, 2, 2, 1, 1, 1, 0, 1, 0]
def pop1L : List Int := [0, 0, 0, 0, 0, 0, 0, 0, 1, 2, 1, 1, 1, 1, 0, 0, 0, 0, 0, 0, 2, 2, 0, 2, 2, 2, 0, 0, 0, 0, 1, 0, 0, 0, 0, 0, 0, 0, 0]
def pop2L : List Int := [0, 0, 0, 0, 0, 0, 0, 0, 0, 0, 0, 0, 0, 0, 0, 0, 0, 0, 0, 0, 0, 0, 0, 0, 0, 0, 0, 0, 0, 0, 1, 0, 0, 0, 0, 0, 0, 0, 0]
def outsL : List Int := [0, 1, 2, 0, 0, 1, 2, 0, 1, 2, 1, 1, 1, 1, 1, 1, 1, 1, 1, 1, 2, 2, 2, 1, 2, 2, 2, 1, 2, 1, 2, 2, 2, 0, 0, 0, 0, 0, 0]
def formOf (k : Int) : tForm.den := (insL.getD k.toNat 0, pop1L.getD k.toNat 0, pop2L.getD k.toNat 0, outsL.getD k.toNat 0, k == 7)
def kn (k : Int) : Bool := decide (1 ≤ k) && decide (k ≤ 38)
theorem kn_iff {k : Int} : kn k = true ↔ 1 ≤ k ∧ k ≤ 38 := by simp [kn]
noncomputable abbrev k18 (k : Int) := evalF Tryz.prog tt call0 [] 51 sOp [.agg tForm] (k, ())
def isForm (o : Option (tForm.den × Unit)) (f : tForm.den) : Bool := match o with
  | some y => decide (y.1.1 = f.1) && (decide (y.1.2.1 = f.2.1) && (decide (y.1.2.2.1 = f.2.2.1) && (decide (y.1.2.2.2.1 = f.2.2.2.1) && decide (y.1.2.2.2.2 = f.2.2.2.2))))
  | none => false
theorem isForm_eq {o : Option (tForm.den × Unit)} {f : tForm.den} (h : isForm o f = true) : o = some (f, ()) := by
  cases o with
  | none => cases h
  | some y =>
    obtain ⟨⟨y1, y2, y3, y4, y5⟩, ⟨⟩⟩ := y
    obtain ⟨f1, f2, f3, f4, f5⟩ := f
    simp only [isForm, Bool.and_eq_true, decide_eq_true_eq] at h
    obtain ⟨rfl, rfl, rfl, rfl, rfl⟩ := h
    rfl
theorem t18 : each38 (fun k => isForm (k18 k) (formOf k)) = true := by kernel_rfl

theorem fn18 : FnOK Tryz.prog 51 sOp [.agg tForm] fun x => bif kn x.1 then some (formOf x.1, ()) else none := fnOK (lss := []) call0_ok fun x y h => by
  obtain ⟨k, ⟨⟩⟩ := x
  change (bif kn k then some (formOf k, ()) else none) = some y at h
  cases ho : kn k with
  | false => rw [ho] at h; cases h
  | true =>
    rw [ho] at h
    have := isForm_eq (each38_at t18 (kn_iff.1 ho).1 (kn_iff.1 ho).2)
    exact this.trans h
theorem flat_form : ∀ s ∈ ([.agg tForm] : Sig), s.flat = true := by intro s hs; simp at hs; subst hs; rfl
theorem flatDec : ∀ s ∈ rDec, s.flat = true := by intro s hs; simp at hs; rcases hs with rfl | rfl <;> rfl
theorem cnt18 (fn : Func) (h : Tryz.prog.funcs[51]? = some fn) : fn.results.size = 1 := by
  have : (Tryz.prog.funcs[51]?).map (fun fn => fn.results.size) = some 1 := by kernel_rfl
  rw [h] at this; simpa using this
theorem cnt33 (fn : Func) (h : Tryz.prog.funcs[50]? = some fn) : fn.results.size = 3 := by
  have : (Tryz.prog.funcs[50]?).map (fun fn => fn.results.size) = some 3 := by kernel_rfl
  rw [h] at this; simpa using this

/-- Decode, of words that are at hand -/
def inOKb (l : List Int) : Bool := (l.all fun w => decide (0 ≤ w) && decide (w ≤ 65535)) && Nat.ble l.length 100000
theorem inOKb_ok {l : List Int} (h : inOKb l = true) : inOK l := by
  simp only [inOKb, Bool.and_eq_true, List.all_eq_true, decide_eq_true_eq] at h
  have := Nat.le_of_ble_eq_true h.2
  exact ⟨fun w hw => h.1 w hw, by unfold big; omega⟩
def FDecC (x : Sig.den sDec) : Option (Shape.den (resShape 0 rDec)) := bif inOKb x.1 then decA x.1 x.2.1 else none
theorem fn33C : FnOK Tryz.prog 50 sDec rDec FDecC := fun x y h => by
  obtain ⟨l, i, ⟨⟩⟩ := x
  change (bif inOKb l then decA l i else none) = some y at h
  cases hb : inOKb l with
  | false => rw [hb] at h; cases h
  | true =>
    rw [hb] at h
    exact fn15 (l, i, ()) y ((FDec_in (inOKb_ok hb) i).trans h)
def specsC (R : Type) (f : FuncId) : Option (List V → Mem → Nat → (Eff → Option R) → Option R) :=
  match f with
  | 50 => some (specE sDec rDec FDecC)
  | 51 => some (specD sOp [.agg tForm] (fun x => kn x.1) fun x => (formOf x.1, ()))
  | _ => none
theorem specsC_ok (R : Type) : SpecOK Tryz.prog (specsC R) := by
  intro f s hs
  unfold specsC at hs
  split at hs
  · cases hs; exact specE_ok fn33C flatDec cnt33
  · cases hs; exact specD_ok fn18 flat_form cnt18
  · cases hs
noncomputable def callC (R : Type) : CallE R := callsE Tryz.prog tt (specsC R) 30
theorem callC_ok (R : Type) : CallsOK Tryz.prog (callC R) := callsE_ok tt_ok mixed names (specsC_ok R) 30
end Go.Pv
/-! ### Lists of numbers as sets: insertion in order, what two lists have in common, keys of a map. -/
namespace Go.Nv
open Go.Pv (putL getL hasL)
def cntLt (l : List Int) (n : Int) : Nat := (l.takeWhile fun x => decide (x < n)).length
def ins : List Int → Int → List Int
  | [], n => [n]
  | x :: r, n => if x < n then x :: ins r n else n :: x :: r
theorem cntLt_le : ∀ (l : List Int) (n : Int), cntLt l n ≤ l.length
  | [], _ => Nat.le_refl _
  | x :: r, n => by
    unfold cntLt
    by_cases h : x < n
    · rw [List.takeWhile_cons_of_pos (by simpa using h)]
      have := cntLt_le r n
      unfold cntLt at this
      simp only [List.length_cons]; omega
    · rw [List.takeWhile_cons_of_neg (by simpa using h)]
      exact Nat.zero_le _
theorem ins_eq : ∀ (l : List Int) (n : Int), l.take (cntLt l n) ++ [n] ++ l.drop (cntLt l n) = ins l n
  | [], _ => rfl
  | x :: r, n => by
    have ih := ins_eq r n
    unfold cntLt at ih ⊢
    simp only [ins]
    by_cases h : x < n
    · rw [List.takeWhile_cons_of_pos (by simpa using h), if_pos h]
      simp only [List.length_cons, List.take_succ_cons, List.drop_succ_cons, List.cons_append]
      rw [ih]
    · rw [List.takeWhile_cons_of_neg (by simpa using h), if_neg h]
      rfl
/-- the first that is not less -/
theorem cntLt_get : ∀ (l : List Int) (n : Int) (i : Nat), i ≤ cntLt l n → i < l.length → (l.getD i 0 < n ↔ i < cntLt l n)
  | [], _, i, _, h => by simp at h
  | x :: r, n, i, hi, hl => by
    unfold cntLt at hi ⊢
    by_cases h : x < n
    · rw [List.takeWhile_cons_of_pos (by simpa using h)] at hi ⊢
      cases i with
      | zero => simp [h]
      | succ i =>
        have := cntLt_get r n i (by unfold cntLt; simpa using hi) (by simpa using hl)
        unfold cntLt at this
        simp only [List.getD_cons_succ, List.length_cons]
        rw [this]; omega
    · rw [List.takeWhile_cons_of_neg (by simpa using h)] at hi ⊢
      have : i = 0 := by simpa using hi
      subst this
      simp [h]
theorem mem_ins {x : Int} : ∀ (l : List Int) (n : Int), x ∈ ins l n ↔ x = n ∨ x ∈ l
  | [], n => by simp [ins]
  | y :: r, n => by
    simp only [ins]
    split
    · simp only [List.mem_cons, mem_ins r n]
      constructor
      · rintro (h | h | h)
        · exact .inr (.inl h)
        · exact .inl h
        · exact .inr (.inr h)
      · rintro (h | h | h)
        · exact .inr (.inl h)
        · exact .inl h
        · exact .inr (.inr h)
    · simp only [List.mem_cons]
theorem ins_sorted : ∀ (l : List Int) (n : Int), l.Pairwise (· < ·) → n ∉ l → (ins l n).Pairwise (· < ·)
  | [], n, _, _ => by simp [ins]
  | x :: r, n, hp, hn => by
    obtain ⟨h1, h2⟩ := List.pairwise_cons.1 hp
    simp only [List.mem_cons, not_or] at hn
    simp only [ins]
    by_cases h : x < n
    · rw [if_pos h]
      refine List.pairwise_cons.2 ⟨fun y hy => ?_, ins_sorted r n h2 hn.2⟩
      rcases (mem_ins r n).1 hy with rfl | hy
      · exact h
      · exact h1 y hy
    · rw [if_neg h]
      refine List.pairwise_cons.2 ⟨fun y hy => ?_, hp⟩
      have hx : n < x := by omega
      rcases List.mem_cons.1 hy with rfl | hy
      · exact hx
      · have := h1 y hy; omega
def inB (l : List Int) (n : Int) : Bool := decide (n ∈ l)
/-- an ascending list with a number -/
def withP (l : List Int) (n : Int) : List Int := if inB l n = true then l else ins l n
theorem mem_withP {x : Int} {l : List Int} {n : Int} : x ∈ withP l n ↔ x = n ∨ x ∈ l := by
  unfold withP inB
  by_cases h : n ∈ l
  · rw [if_pos (by simpa using h)]
    constructor
    · exact .inr
    · rintro (rfl | hx)
      · exact h
      · exact hx
  · rw [if_neg (by simpa using h)]; exact mem_ins l n
theorem withP_sorted {l : List Int} (n : Int) (h : l.Pairwise (· < ·)) : (withP l n).Pairwise (· < ·) := by
  unfold withP inB
  by_cases hn : n ∈ l
  · rw [if_pos (by simpa using hn)]; exact h
  · rw [if_neg (by simpa using hn)]; exact ins_sorted l n h hn
theorem ins_len : ∀ (l : List Int) (n : Int), (ins l n).length = l.length + 1
  | [], _ => rfl
  | x :: r, n => by simp only [ins]; split <;> simp [ins_len r n]
theorem withP_len (l : List Int) (n : Int) : (withP l n).length ≤ l.length + 1 := by
  unfold withP; split
  · omega
  · rw [ins_len]; exact Nat.le_refl _
/-! ### Ascending order -/
def srt (l : List Int) : List Int := l.mergeSort fun x y => decide (x ≤ y)
theorem srt_perm (l : List Int) : (srt l).Perm l := List.mergeSort_perm l _
theorem srt_sorted (l : List Int) : (srt l).Pairwise (· ≤ ·) := by
  have tr : ∀ a b c : Int, decide (a ≤ b) = true → decide (b ≤ c) = true → decide (a ≤ c) = true := fun a b c h1 h2 => by simp only [decide_eq_true_eq] at *; omega
  have to : ∀ a b : Int, (decide (a ≤ b) || decide (b ≤ a)) = true := fun a b => by simp only [Bool.or_eq_true, decide_eq_true_eq]; omega
  exact (List.pairwise_mergeSort tr to l).imp fun h => by simpa using h
/-- a set's ascending list is one -/
theorem srt_unique {l s : List Int} (hn : l.Nodup) (hs : s.Pairwise (· < ·)) (hm : ∀ x, x ∈ l ↔ x ∈ s) : srt l = s := by
  have hsn : s.Nodup := hs.imp fun h => by omega
  have hp : l.Perm s := (List.perm_ext_iff_of_nodup hn hsn).2 hm
  refine List.Perm.eq_of_pairwise (le := fun a b => a ≤ b) (fun a b _ _ h1 h2 => by omega) (srt_sorted l) (hs.imp fun h => by omega) ((srt_perm l).trans hp)
/-! ### Maps as sets -/
def keys (m : List (Int × Bool)) : List Int := m.map (·.1)
theorem keys_put (n : Int) (x : Bool) : ∀ m : List (Int × Bool), keys (putL n x m) = if n ∈ keys m then keys m else keys m ++ [n]
  | [] => rfl
  | p :: r => by
    have ih := keys_put n x r
    unfold keys at ih ⊢
    simp only [putL, List.map_cons, List.mem_cons]
    by_cases h : p.1 = n
    · rw [decide_eq_true h]
      simp [h]
    · rw [decide_eq_false h]
      simp only [cond_false, List.map_cons, ih]
      have h' : ¬ n = p.1 := fun e => h e.symm
      by_cases h2 : n ∈ List.map (fun x => x.1) r
      · rw [if_pos h2, if_pos (.inr h2)]
      · rw [if_neg h2, if_neg (not_or.2 ⟨h', h2⟩)]; rfl
theorem mem_keys_put {n y : Int} {x : Bool} {m : List (Int × Bool)} : y ∈ keys (putL n x m) ↔ y = n ∨ y ∈ keys m := by
  rw [keys_put]
  split
  · rename_i h
    constructor
    · exact .inr
    · rintro (rfl | h')
      · exact h
      · exact h'
  · simp only [List.mem_append, List.mem_singleton]
    constructor
    · rintro (h | h)
      · exact .inr h
      · exact .inl h
    · rintro (h | h)
      · exact .inr h
      · exact .inl h
theorem nodup_put {n : Int} {x : Bool} {m : List (Int × Bool)} (h : (keys m).Nodup) : (keys (putL n x m)).Nodup := by
  rw [keys_put]
  split
  · exact h
  · rename_i hn
    exact List.nodup_append.2 ⟨h, by simp, fun a ha b hb => by simp at hb; subst hb; exact fun e => hn (e ▸ ha)⟩
theorem put_len (n : Int) (x : Bool) (m : List (Int × Bool)) : (putL n x m).length ≤ m.length + 1 := by
  have := congrArg List.length (keys_put n x m)
  unfold keys at this
  simp only [List.length_map] at this
  rw [this]
  split <;> simp
/-- all entries are true -/
def AllT (m : List (Int × Bool)) : Prop := ∀ p ∈ m, p.2 = true
theorem allT_put {n : Int} : ∀ {m : List (Int × Bool)}, AllT m → AllT (putL n true m)
  | [], _ => fun p hp => by simp [putL] at hp; subst hp; rfl
  | q :: r, h => fun p hp => by
    simp only [putL] at hp
    by_cases hq : q.1 = n
    · rw [decide_eq_true hq] at hp
      simp only [cond_true, List.mem_cons] at hp
      rcases hp with rfl | hp
      · rfl
      · exact h p (by simp [hp])
    · rw [decide_eq_false hq] at hp
      simp only [cond_false, List.mem_cons] at hp
      rcases hp with rfl | hp
      · exact h p (by simp)
      · exact allT_put (fun p' hp' => h p' (by simp [hp'])) p hp
theorem get_iff {n : Int} : ∀ {m : List (Int × Bool)}, AllT m → (getL n false m = true ↔ n ∈ keys m)
  | [], _ => by simp [getL, keys]
  | q :: r, h => by
    have ih := get_iff (n := n) (m := r) fun p hp => h p (by simp [hp])
    simp only [getL]
    by_cases hq : q.1 = n
    · rw [decide_eq_true hq]
      simp [keys, hq, h q (by simp)]
    · rw [decide_eq_false hq]
      simp only [cond_false, ih]
      unfold keys
      simp only [List.map_cons, List.mem_cons]
      constructor
      · exact .inr
      · rintro (e | e)
        · exact absurd e.symm hq
        · exact e
/-! ### What two lists have in common -/
def comR (b : List Int) : List Int → List Int → List Int
  | [], o => o
  | x :: r, o => comR b r (if inB b x = true then withP o x else o)
def putAll : List Int → List (Int × Bool) → List (Int × Bool)
  | [], m => m
  | x :: r, m => putAll r (putL x true m)
def comM (m1 : List (Int × Bool)) : List Int → List (Int × Bool) → List (Int × Bool)
  | [], m => m
  | x :: r, m => comM m1 r (if getL x false m1 = true then putL x true m else m)
theorem comR_spec (b : List Int) : ∀ (a o : List Int), o.Pairwise (· < ·) → (comR b a o).Pairwise (· < ·) ∧ ∀ x, x ∈ comR b a o ↔ x ∈ o ∨ (x ∈ a ∧ x ∈ b)
  | [], o, h => ⟨h, fun x => by simp [comR]⟩
  | y :: r, o, h => by
    simp only [comR]
    have h2 : (if inB b y = true then withP o y else o).Pairwise (· < ·) := by
      split
      · exact withP_sorted y h
      · exact h
    obtain ⟨g1, g2⟩ := comR_spec b r _ h2
    refine ⟨g1, fun x => ?_⟩
    rw [g2 x]
    unfold inB
    by_cases hy : y ∈ b
    · rw [if_pos (by simpa using hy), mem_withP]
      simp only [List.mem_cons]
      constructor
      · rintro ((rfl | h) | ⟨h1, h2⟩)
        · exact .inr ⟨.inl rfl, hy⟩
        · exact .inl h
        · exact .inr ⟨.inr h1, h2⟩
      · rintro (h | ⟨rfl | h1, h2⟩)
        · exact .inl (.inr h)
        · exact .inl (.inl rfl)
        · exact .inr ⟨h1, h2⟩
    · rw [if_neg (by simpa using hy)]
      simp only [List.mem_cons]
      constructor
      · rintro (h | ⟨h1, h2⟩)
        · exact .inl h
        · exact .inr ⟨.inr h1, h2⟩
      · rintro (h | ⟨h1 | h1, h3⟩)
        · exact .inl h
        · exact absurd (h1 ▸ h3) hy
        · exact .inr ⟨h1, h3⟩
theorem putAll_spec : ∀ (a : List Int) (m : List (Int × Bool)), (keys m).Nodup → AllT m → (keys (putAll a m)).Nodup ∧ AllT (putAll a m) ∧ ∀ x, x ∈ keys (putAll a m) ↔ x ∈ keys m ∨ x ∈ a
  | [], m, h1, h2 => ⟨h1, h2, fun x => by simp [putAll]⟩
  | y :: r, m, h1, h2 => by
    obtain ⟨g1, g2, g3⟩ := putAll_spec r (putL y true m) (nodup_put h1) (allT_put h2)
    refine ⟨g1, g2, fun x => ?_⟩
    simp only [putAll]
    rw [g3 x, mem_keys_put]
    simp only [List.mem_cons]
    constructor
    · rintro ((h | h) | h)
      · exact .inr (.inl h)
      · exact .inl h
      · exact .inr (.inr h)
    · rintro (h | h | h)
      · exact .inl (.inr h)
      · exact .inl (.inl h)
      · exact .inr h
theorem comM_spec {m1 : List (Int × Bool)} (ht : AllT m1) : ∀ (b : List Int) (m : List (Int × Bool)), (keys m).Nodup → (keys (comM m1 b m)).Nodup ∧ ∀ x, x ∈ keys (comM m1 b m) ↔ x ∈ keys m ∨ (x ∈ b ∧ x ∈ keys m1)
  | [], m, h1 => ⟨h1, fun x => by simp [comM]⟩
  | y :: r, m, h1 => by
    simp only [comM]
    by_cases hy : y ∈ keys m1
    · rw [if_pos ((get_iff ht).2 hy)]
      obtain ⟨g1, g2⟩ := comM_spec ht r (putL y true m) (nodup_put h1)
      refine ⟨g1, fun x => ?_⟩
      rw [g2 x, mem_keys_put]
      simp only [List.mem_cons]
      constructor
      · rintro ((rfl | h) | ⟨h, h'⟩)
        · exact .inr ⟨.inl rfl, hy⟩
        · exact .inl h
        · exact .inr ⟨.inr h, h'⟩
      · rintro (h | ⟨rfl | h, h'⟩)
        · exact .inl (.inr h)
        · exact .inl (.inl rfl)
        · exact .inr ⟨h, h'⟩
    · rw [if_neg (fun h => hy ((get_iff ht).1 h))]
      obtain ⟨g1, g2⟩ := comM_spec ht r m h1
      refine ⟨g1, fun x => ?_⟩
      rw [g2 x]
      simp only [List.mem_cons]
      constructor
      · rintro (h | ⟨h, h'⟩)
        · exact .inl h
        · exact .inr ⟨.inr h, h'⟩
      · rintro (h | ⟨rfl | h, h'⟩)
        · exact .inl h
        · exact absurd h' hy
        · exact .inr ⟨h, h'⟩
def common (a b : List Int) : List Int := comR b a []
theorem common_eq (a b : List Int) : srt (keys (comM (putAll a []) b [])) = common a b := by
  obtain ⟨h1, h2, h3⟩ := putAll_spec a [] (by simp [keys]) (fun p hp => by simp at hp)
  obtain ⟨g1, g2⟩ := comM_spec h2 b [] (by simp [keys])
  obtain ⟨k1, k2⟩ := comR_spec b a [] List.Pairwise.nil
  refine srt_unique g1 k1 fun x => ?_
  show _ ↔ x ∈ comR b a []
  rw [g2 x, k2 x, h3 x]
  simp only [keys, List.map_nil, List.not_mem_nil, false_or]
  exact And.comm
theorem putAll_len : ∀ (a : List Int) (m : List (Int × Bool)), (putAll a m).length ≤ m.length + a.length
  | [], m => by simp [putAll]
  | y :: r, m => by
    have := putAll_len r (putL y true m)
    have := put_len y true m
    simp only [putAll, List.length_cons]; omega
theorem comM_len (m1 : List (Int × Bool)) : ∀ (b : List Int) (m : List (Int × Bool)), (comM m1 b m).length ≤ m.length + b.length
  | [], m => by simp [comM]
  | y :: r, m => by
    simp only [comM, List.length_cons]
    split
    · have := comM_len m1 r (putL y true m)
      have := put_len y true m; omega
    · have := comM_len m1 r m; omega
theorem comR_len (b : List Int) : ∀ (a o : List Int), (comR b a o).length ≤ o.length + a.length
  | [], o => by simp [comR]
  | y :: r, o => by
    simp only [comR, List.length_cons]
    split
    · have := comR_len b r (withP o y)
      have := withP_len o y; omega
    · have := comR_len b r o; omega
end Go.Nv
/-! ### Natural numbers as limbs of 32 bits, on plain data. -/
namespace Go.Nv
def lval : List Int → Nat
  | [] => 0
  | x :: r => x.toNat + 4294967296 * lval r
def Limb (l : List Int) : Prop := ∀ x ∈ l, 0 ≤ x ∧ x < 4294967296
/-- without the zeros at the end -/
def ltrim : List Int → List Int
  | [] => []
  | x :: r => if ltrim r = [] ∧ x = 0 then [] else x :: ltrim r
def lb (n : Nat) : List Int := if h : n = 0 then [] else ((n % 4294967296 : Nat) : Int) :: lb (n / 4294967296)
termination_by n
decreasing_by omega
theorem lb_zero : lb 0 = [] := by rw [lb]; simp
theorem lb_pos {n : Nat} (h : n ≠ 0) : lb n = ((n % 4294967296 : Nat) : Int) :: lb (n / 4294967296) := by rw [lb]; simp [h]
theorem Limb.nil : Limb [] := fun _ h => by cases h
theorem Limb.cons {x : Int} {r : List Int} (h : Limb (x :: r)) : (0 ≤ x ∧ x < 4294967296) ∧ Limb r := ⟨h x (by simp), fun y hy => h y (by simp [hy])⟩
theorem Limb.mk {x : Int} {r : List Int} (h1 : 0 ≤ x ∧ x < 4294967296) (h2 : Limb r) : Limb (x :: r) := fun y hy => by
  rcases List.mem_cons.1 hy with rfl | hy
  · exact h1
  · exact h2 y hy
theorem Limb.append {a b : List Int} (h1 : Limb a) (h2 : Limb b) : Limb (a ++ b) := fun y hy => by
  rcases List.mem_append.1 hy with hy | hy
  · exact h1 y hy
  · exact h2 y hy
theorem Limb.one {x : Int} (h : 0 ≤ x ∧ x < 4294967296) : Limb [x] := Limb.mk h Limb.nil
theorem lb_nil {n : Nat} : lb n = [] ↔ n = 0 := by
  constructor
  · intro h
    by_cases h0 : n = 0
    · exact h0
    · rw [lb_pos h0] at h; cases h
  · rintro rfl; exact lb_zero
theorem ltrim_lb : ∀ {l : List Int}, Limb l → ltrim l = lb (lval l)
  | [], _ => by simp [ltrim, lval, lb_zero]
  | x :: r, h => by
    obtain ⟨h1, h2⟩ := h.cons
    have ih := ltrim_lb h2
    simp only [ltrim, lval]
    by_cases h0 : ltrim r = [] ∧ x = 0
    · rw [if_pos h0]
      have h3 : lval r = 0 := lb_nil.1 (ih ▸ h0.1)
      rw [h3, h0.2]
      exact lb_zero.symm
    · rw [if_neg h0]
      have hn : x.toNat + 4294967296 * lval r ≠ 0 := fun e => h0 ⟨by rw [ih]; exact lb_nil.2 (by omega), by omega⟩
      rw [lb_pos hn, ih]
      have e1 : (x.toNat + 4294967296 * lval r) / 4294967296 = lval r := by omega
      have e2 : (x.toNat + 4294967296 * lval r) % 4294967296 = x.toNat := by omega
      rw [e1, e2, Int.toNat_of_nonneg h1.1]
theorem limb_lb (n : Nat) : Limb (lb n) := by
  induction n using Nat.strongRecOn with
  | _ n ih =>
    by_cases h : n = 0
    · subst h; rw [lb_zero]; exact Limb.nil
    · rw [lb_pos h]; exact Limb.mk (by omega) (ih _ (by omega))
theorem lval_lb (n : Nat) : lval (lb n) = n := by
  induction n using Nat.strongRecOn with
  | _ n ih =>
    by_cases h : n = 0
    · subst h; rw [lb_zero]; rfl
    · rw [lb_pos h]
      simp only [lval]
      rw [ih _ (by omega), Int.toNat_natCast]
      omega
theorem ltrim_lb_self (n : Nat) : ltrim (lb n) = lb n := by rw [ltrim_lb (limb_lb n), lval_lb]
theorem lb_len (n : Nat) : ∀ k : Nat, n < 4294967296 ^ k → (lb n).length ≤ k := by
  induction n using Nat.strongRecOn with
  | _ n ih =>
    intro k hk
    by_cases h : n = 0
    · subst h; rw [lb_zero]; exact Nat.zero_le _
    · cases k with
      | zero => simp at hk; omega
      | succ k =>
        rw [lb_pos h]
        have : n / 4294967296 < 4294967296 ^ k := by
          rw [Nat.div_lt_iff_lt_mul (by decide)]
          rwa [Nat.pow_succ] at hk
        have := ih (n / 4294967296) (by omega) k this
        simp only [List.length_cons]; omega
theorem ltrim_take : ∀ l : List Int, l.take (ltrim l).length = ltrim l
  | [] => rfl
  | x :: r => by
    have ih := ltrim_take r
    simp only [ltrim]
    split
    · rfl
    · simp only [List.length_cons, List.take_succ_cons, ih]
theorem ltrim_le (l : List Int) : (ltrim l).length ≤ l.length := by
  have h := congrArg List.length (ltrim_take l)
  simp only [List.length_take] at h; omega
theorem ltrim_zero : ∀ (l : List Int) (i : Nat), (ltrim l).length ≤ i → l.getD i 0 = 0
  | [], i, _ => by simp
  | x :: r, i, h => by
    simp only [ltrim] at h
    split at h
    · rename_i h0
      cases i with
      | zero => simpa using h0.2
      | succ i =>
        simp only [List.getD_cons_succ]
        exact ltrim_zero r i (by rw [h0.1]; exact Nat.zero_le _)
    · cases i with
      | zero => simp at h
      | succ i =>
        simp only [List.getD_cons_succ]
        exact ltrim_zero r i (by simpa using h)
theorem ltrim_last : ∀ l : List Int, (ltrim l).length ≠ 0 → l.getD ((ltrim l).length - 1) 0 ≠ 0
  | [], h => by simp [ltrim] at h
  | x :: r, h => by
    simp only [ltrim] at h ⊢
    split at h
    · simp at h
    · rename_i h0
      rw [if_neg h0]
      simp only [List.length_cons, Nat.add_sub_cancel]
      by_cases h1 : (ltrim r).length = 0
      · rw [h1]
        simp only [List.getD_cons_zero]
        intro hx
        exact h0 ⟨List.eq_nil_of_length_eq_zero h1, hx⟩
      · have e : (ltrim r).length = ((ltrim r).length - 1) + 1 := by omega
        rw [e, List.getD_cons_succ]
        exact ltrim_last r h1
theorem lval_append : ∀ a b : List Int, lval (a ++ b) = lval a + 4294967296 ^ a.length * lval b
  | [], b => by simp [lval]
  | x :: r, b => by
    simp only [List.cons_append, lval, lval_append r b, List.length_cons, Nat.pow_succ]
    rw [Nat.mul_add, Nat.mul_comm (4294967296 ^ r.length) 4294967296, Nat.mul_assoc]
    omega
theorem lval_lt : ∀ {l : List Int}, Limb l → lval l < 4294967296 ^ l.length
  | [], _ => by simp [lval]
  | x :: r, h => by
    obtain ⟨h1, h2⟩ := h.cons
    have ih := lval_lt h2
    simp only [lval, List.length_cons, Nat.pow_succ]
    have : x.toNat < 4294967296 := by omega
    omega
theorem lval_drop {l : List Int} {i : Nat} : lval (l.drop i) = (l.getD i 0).toNat + 4294967296 * lval (l.drop (i + 1)) := by
  by_cases h : i < l.length
  · rw [List.drop_eq_getElem_cons h]
    simp only [lval]
    simp [List.getD, h]
  · rw [List.drop_eq_nil_of_le (by omega), List.drop_eq_nil_of_le (by omega)]
    simp [lval, List.getD, show l.length ≤ i by omega]
theorem limb_getD {l : List Int} (h : Limb l) (i : Nat) : 0 ≤ l.getD i 0 ∧ l.getD i 0 < 4294967296 := by
  by_cases hi : i < l.length
  · rw [show l.getD i 0 = l[i] by simp [List.getD, hi]]; exact h _ (List.getElem_mem hi)
  · rw [show l.getD i 0 = 0 by simp [List.getD, show l.length ≤ i by omega]]; omega
/-! ### Sums -/
/-- digits and carry -/
def addC (a b : List Int) : Nat → Nat → Int → List Int → List Int × Int
  | 0, _, c, o => (o, c)
  | n + 1, i, c, o => addC a b n (i + 1) ((c + (a.getD i 0 + b.getD i 0)) / 4294967296) (o ++ [(c + (a.getD i 0 + b.getD i 0)) % 4294967296])
theorem addC_ok {a b : List Int} (ha : Limb a) (hb : Limb b) : ∀ (n i : Nat) (c : Int) (o : List Int), 0 ≤ c → c ≤ 1 → Limb o → o.length = i →
    Limb (addC a b n i c o).1 ∧ (addC a b n i c o).1.length = i + n ∧ 0 ≤ (addC a b n i c o).2 ∧ (addC a b n i c o).2 ≤ 1 ∧
      lval (addC a b n i c o).1 + 4294967296 ^ (i + n) * ((addC a b n i c o).2.toNat + lval (a.drop (i + n)) + lval (b.drop (i + n))) = lval o + 4294967296 ^ i * (c.toNat + lval (a.drop i) + lval (b.drop i))
  | 0, i, c, o, h1, h2, h3, h4 => ⟨h3, h4, h1, h2, rfl⟩
  | n + 1, i, c, o, h1, h2, h3, h4 => by
    have ga := limb_getD ha i
    have gb := limb_getD hb i
    simp only [addC]
    generalize hs : c + (a.getD i 0 + b.getD i 0) = s
    obtain ⟨k1, k2, k3, k4, k5⟩ := addC_ok ha hb n (i + 1) (s / 4294967296) (o ++ [s % 4294967296]) (by omega) (by omega) (h3.append (Limb.one (by omega))) (by simp [h4])
    refine ⟨k1, by omega, k3, k4, ?_⟩
    rw [show i + (n + 1) = i + 1 + n by omega, k5, lval_append, h4, lval_drop (l := a) (i := i), lval_drop (l := b) (i := i)]
    simp only [lval, Nat.mul_zero, Nat.add_zero, Nat.pow_succ]
    have e : (s % 4294967296).toNat + 4294967296 * (s / 4294967296).toNat = c.toNat + (a.getD i 0).toNat + (b.getD i 0).toNat := by omega
    generalize (s / 4294967296).toNat = q at *
    generalize (s % 4294967296).toNat = r at *
    generalize lval (a.drop (i + 1)) = A
    generalize lval (b.drop (i + 1)) = D
    generalize 4294967296 ^ i = P
    have e2 : c.toNat + ((a.getD i 0).toNat + 4294967296 * A) + ((b.getD i 0).toNat + 4294967296 * D) = r + 4294967296 * (q + A + D) := by omega
    rw [e2, Nat.mul_add P r, Nat.mul_assoc P, Nat.add_assoc]
theorem addC_val {a b : List Int} (ha : Limb a) (hb : Limb b) {n : Nat} (h1 : a.length ≤ n) (h2 : b.length ≤ n) :
    Limb ((addC a b n 0 0 []).1 ++ [(addC a b n 0 0 []).2]) ∧ lval ((addC a b n 0 0 []).1 ++ [(addC a b n 0 0 []).2]) = lval a + lval b ∧ (addC a b n 0 0 []).1.length = n := by
  obtain ⟨k1, k2, k3, k4, k5⟩ := addC_ok ha hb n 0 0 [] (Int.le_refl _) (by decide) Limb.nil rfl
  refine ⟨k1.append (Limb.one (by omega)), ?_, by omega⟩
  rw [lval_append, k2]
  rw [List.drop_eq_nil_of_le (show a.length ≤ 0 + n by omega), List.drop_eq_nil_of_le (show b.length ≤ 0 + n by omega)] at k5
  simpa [lval] using k5
/-! ### Differences -/
def subC (a b : List Int) : Nat → Nat → Int → List Int → List Int × Int
  | 0, _, c, o => (o, c)
  | n + 1, i, c, o => subC a b n (i + 1) (1 - (4294967296 + a.getD i 0 - b.getD i 0 - c) / 4294967296) (o ++ [(4294967296 + a.getD i 0 - b.getD i 0 - c) % 4294967296])
theorem subC_ok {a b : List Int} (ha : Limb a) (hb : Limb b) : ∀ (n i : Nat) (c : Int) (o : List Int), 0 ≤ c → c ≤ 1 → Limb o → o.length = i →
    Limb (subC a b n i c o).1 ∧ (subC a b n i c o).1.length = i + n ∧ 0 ≤ (subC a b n i c o).2 ∧ (subC a b n i c o).2 ≤ 1 ∧
      lval (subC a b n i c o).1 + 4294967296 ^ (i + n) * lval (a.drop (i + n)) + 4294967296 ^ i * (c.toNat + lval (b.drop i)) = lval o + 4294967296 ^ i * lval (a.drop i) + 4294967296 ^ (i + n) * ((subC a b n i c o).2.toNat + lval (b.drop (i + n)))
  | 0, i, c, o, h1, h2, h3, h4 => ⟨h3, h4, h1, h2, by simp only [subC, Nat.add_zero]⟩
  | n + 1, i, c, o, h1, h2, h3, h4 => by
    have ga := limb_getD ha i
    have gb := limb_getD hb i
    simp only [subC]
    generalize hs : 4294967296 + a.getD i 0 - b.getD i 0 - c = s
    obtain ⟨k1, k2, k3, k4, k5⟩ := subC_ok ha hb n (i + 1) (1 - s / 4294967296) (o ++ [s % 4294967296]) (by omega) (by omega) (h3.append (Limb.one (by omega))) (by simp [h4])
    refine ⟨k1, by omega, k3, k4, ?_⟩
    rw [show i + (n + 1) = i + 1 + n by omega, lval_drop (l := a) (i := i), lval_drop (l := b) (i := i)]
    rw [lval_append, h4] at k5
    simp only [lval, Nat.mul_zero, Nat.add_zero, Nat.pow_succ] at k5
    have e : (s % 4294967296).toNat + (b.getD i 0).toNat + c.toNat = (a.getD i 0).toNat + 4294967296 * (1 - s / 4294967296).toNat := by omega
    generalize (1 - s / 4294967296).toNat = q at *
    generalize (s % 4294967296).toNat = r at *
    generalize lval (a.drop (i + 1)) = A at *
    generalize lval (b.drop (i + 1)) = D at *
    generalize 4294967296 ^ i = P at *
    generalize lval (subC a b n (i + 1) (1 - s / 4294967296) (o ++ [s % 4294967296])).1 + 4294967296 ^ (i + 1 + n) * lval (a.drop (i + 1 + n)) = L at *
    generalize 4294967296 ^ (i + 1 + n) * ((subC a b n (i + 1) (1 - s / 4294967296) (o ++ [s % 4294967296])).2.toNat + lval (b.drop (i + 1 + n))) = R at *
    have e2 : P * (c.toNat + ((b.getD i 0).toNat + 4294967296 * D)) + P * r = P * ((a.getD i 0).toNat + 4294967296 * (q + D)) := by rw [← Nat.mul_add]; congr 1; omega
    have e3 : P * 4294967296 * (q + D) = P * (4294967296 * (q + D)) := Nat.mul_assoc _ _ _
    have e4 : P * 4294967296 * A = P * (4294967296 * A) := Nat.mul_assoc _ _ _
    rw [e3, e4] at k5
    rw [Nat.mul_add] at e2
    have e5 : P * ((a.getD i 0).toNat + 4294967296 * (q + D)) = P * (a.getD i 0).toNat + P * (4294967296 * (q + D)) := Nat.mul_add _ _ _
    have e6 : P * ((a.getD i 0).toNat + 4294967296 * A) = P * (a.getD i 0).toNat + P * (4294967296 * A) := Nat.mul_add _ _ _
    rw [e5] at e2
    rw [e6, Nat.mul_add]
    omega
theorem subC_val {a b : List Int} (ha : Limb a) (hb : Limb b) (h1 : b.length ≤ a.length) (h2 : lval b ≤ lval a) :
    Limb (subC a b a.length 0 0 []).1 ∧ lval (subC a b a.length 0 0 []).1 = lval a - lval b ∧ (subC a b a.length 0 0 []).1.length = a.length := by
  obtain ⟨k1, k2, k3, k4, k5⟩ := subC_ok ha hb a.length 0 0 [] (Int.le_refl _) (by decide) Limb.nil rfl
  rw [Nat.zero_add] at k2 k5
  refine ⟨k1, ?_, k2⟩
  have hlt := lval_lt k1
  rw [k2] at hlt
  rw [List.drop_eq_nil_of_le (Nat.le_refl _), List.drop_eq_nil_of_le h1] at k5
  simp only [lval, List.drop_zero, Nat.mul_zero, Nat.add_zero, Nat.pow_zero, Nat.one_mul, Nat.zero_add] at k5
  generalize lval (subC a b a.length 0 0 []).1 = S at *
  generalize 4294967296 ^ a.length = P at *
  have hq : (subC a b a.length 0 0 []).2.toNat = 0 ∨ (subC a b a.length 0 0 []).2.toNat = 1 := by omega
  rcases hq with hq | hq
  · rw [hq] at k5; simp at k5; omega
  · rw [hq] at k5; simp at k5; omega
end Go.Nv
/-! ### Natural numbers as limbs: comparison, products, shifts, single digits. -/
namespace Go.Nv
theorem lval_split (l : List Int) (i : Nat) : lval l = lval (l.take i) + 4294967296 ^ i * lval (l.drop i) := by
  by_cases h : i ≤ l.length
  · have := lval_append (l.take i) (l.drop i)
    rw [List.take_append_drop, List.length_take, Nat.min_eq_left h] at this
    exact this
  · rw [List.take_of_length_le (by omega), List.drop_eq_nil_of_le (by omega)]; simp [lval]
theorem limb_take {l : List Int} (h : Limb l) (i : Nat) : Limb (l.take i) := fun x hx => h x (List.mem_of_mem_take hx)
theorem limb_drop {l : List Int} (h : Limb l) (i : Nat) : Limb (l.drop i) := fun x hx => h x (List.mem_of_mem_drop hx)
theorem take_lt {l : List Int} (h : Limb l) (i : Nat) : lval (l.take i) < 4294967296 ^ i := by
  have h1 := lval_lt (limb_take h i)
  refine Nat.lt_of_lt_of_le h1 (Nat.pow_le_pow_right (by decide) ?_)
  simp only [List.length_take]; omega
/-! ### Comparison -/
def cmpC (a b : List Int) : Nat → Int
  | 0 => 0
  | i + 1 => if a.getD i 0 < b.getD i 0 then -1 else if a.getD i 0 > b.getD i 0 then 1 else cmpC a b i
def cmpN (a b : Nat) : Int := if a < b then -1 else if b < a then 1 else 0
theorem mul_step {P x y ta : Nat} (h : x < y) (ht : ta < P) : P * x + ta < P * y := by
  have := Nat.mul_le_mul_left P (show x + 1 ≤ y from h)
  rw [Nat.mul_add, Nat.mul_one] at this; omega
theorem cmpC_ok {a b : List Int} (ha : Limb a) (hb : Limb b) : ∀ i, lval (a.drop i) = lval (b.drop i) → cmpC a b i = cmpN (lval a) (lval b)
  | 0, h => by
    simp only [List.drop_zero] at h
    rw [h]; unfold cmpN cmpC; rw [if_neg (by omega), if_neg (by omega)]
  | i + 1, h => by
    have ga := limb_getD ha i
    have gb := limb_getD hb i
    have ea := lval_split a i
    have eb := lval_split b i
    have ta := take_lt ha i
    have tb := take_lt hb i
    have da := lval_drop (l := a) (i := i)
    have db := lval_drop (l := b) (i := i)
    rw [h] at da
    simp only [cmpC]
    by_cases h1 : a.getD i 0 < b.getD i 0
    · have h3 : lval (a.drop i) < lval (b.drop i) := by omega
      have := mul_step h3 ta
      unfold cmpN
      rw [if_pos h1, if_pos (by omega)]
    · by_cases h2 : a.getD i 0 > b.getD i 0
      · have h3 : lval (b.drop i) < lval (a.drop i) := by omega
        have := mul_step h3 tb
        unfold cmpN
        rw [if_neg h1, if_pos h2, if_neg (by omega), if_pos (by omega)]
      · rw [if_neg h1, if_neg h2]
        exact cmpC_ok ha hb i (by omega)
/-! ### Single limbs -/
theorem lb_getD (n : Nat) : ∀ i : Nat, (lb n).getD i 0 = ((n / 4294967296 ^ i % 4294967296 : Nat) : Int) := by
  induction n using Nat.strongRecOn with
  | _ n ih =>
    intro i
    by_cases h : n = 0
    · subst h; rw [lb_zero]; simp
    · rw [lb_pos h]
      cases i with
      | zero => simp
      | succ i =>
        rw [List.getD_cons_succ, ih _ (by omega), Nat.pow_succ, Nat.mul_comm, Nat.div_div_eq_div_mul]
theorem lb_lt {n i : Nat} (h : n / 4294967296 ^ i ≠ 0) : i < (lb n).length := by
  rcases Nat.lt_or_ge i (lb n).length with h1 | h1
  · exact h1
  · have h2 := lval_lt (limb_lb n)
    rw [lval_lb] at h2
    have h3 : 4294967296 ^ (lb n).length ≤ 4294967296 ^ i := Nat.pow_le_pow_right (by decide) h1
    exact absurd (Nat.div_eq_of_lt (by omega)) h
theorem lb_one {x : Nat} (h0 : x ≠ 0) (h : x < 4294967296) : lb x = [(x : Int)] := by
  rw [lb_pos h0, Nat.mod_eq_of_lt h, Nat.div_eq_of_lt h, lb_zero]
/-! ### Shifts to the left -/
def shlC (s : Nat) : List Int → Int → List Int → List Int × Int
  | [], c, o => (o, c)
  | x :: r, c, o => shlC s r ((c + x * 2 ^ s) / 4294967296) (o ++ [(c + x * 2 ^ s) % 4294967296])
theorem pow32 {s : Nat} (h : s < 32) : (2 : Nat) ^ s * 2 ^ (32 - s) = 4294967296 := by
  rw [← Nat.pow_add, show s + (32 - s) = 32 by omega]
theorem shl_carry {s c x : Nat} (h : s < 32) (hc : c < 2 ^ s) (hx : x < 4294967296) : (c + x * 2 ^ s) / 4294967296 < 2 ^ s := by
  rw [Nat.div_lt_iff_lt_mul (by decide)]
  have := Nat.mul_le_mul_right (2 ^ s) (show x + 1 ≤ 4294967296 from hx)
  rw [Nat.add_mul, Nat.one_mul] at this
  rw [Nat.mul_comm (2 ^ s)]
  omega
theorem shlC_ok {s : Nat} (hs : s < 32) : ∀ (l : List Int) (c : Int) (o : List Int), Limb l → 0 ≤ c → c < 2 ^ s → Limb o →
    Limb (shlC s l c o).1 ∧ (shlC s l c o).1.length = o.length + l.length ∧ 0 ≤ (shlC s l c o).2 ∧ (shlC s l c o).2 < 2 ^ s ∧
      lval (shlC s l c o).1 + 4294967296 ^ (o.length + l.length) * (shlC s l c o).2.toNat = lval o + 4294967296 ^ o.length * (c.toNat + lval l * 2 ^ s)
  | [], c, o, _, h1, h2, h3 => ⟨h3, rfl, h1, h2, by simp [shlC, lval]⟩
  | x :: r, c, o, hl, h1, h2, h3 => by
    obtain ⟨hx, hr⟩ := hl.cons
    simp only [shlC]
    obtain ⟨cn, rfl⟩ := Int.eq_ofNat_of_zero_le h1
    obtain ⟨xn, rfl⟩ := Int.eq_ofNat_of_zero_le hx.1
    have ep : ((2 : Int) ^ s) = ((2 ^ s : Nat) : Int) := by simp
    rw [ep] at h2 ⊢
    have e1 : ((cn : Int) + (xn : Int) * ((2 ^ s : Nat) : Int)) = ((cn + xn * 2 ^ s : Nat) : Int) := by simp
    rw [e1]
    have hc := shl_carry hs (show cn < 2 ^ s by omega) (show xn < 4294967296 by omega)
    obtain ⟨k1, k2, k3, k4, k5⟩ := shlC_ok hs r (((cn + xn * 2 ^ s : Nat) : Int) / 4294967296) (o ++ [((cn + xn * 2 ^ s : Nat) : Int) % 4294967296]) hr (by omega) (by rw [ep]; omega) (h3.append (Limb.one (by omega)))
    rw [ep] at k4
    have el : (o ++ [((cn + xn * 2 ^ s : Nat) : Int) % 4294967296]).length = o.length + 1 := by simp
    rw [el] at k2 k5
    refine ⟨k1, by simp only [List.length_cons]; omega, k3, k4, ?_⟩
    simp only [List.length_cons]
    rw [show o.length + (r.length + 1) = o.length + 1 + r.length by omega, k5, lval_append]
    simp only [lval, Nat.mul_zero, Nat.add_zero, Int.toNat_natCast]
    have q1 : (((cn + xn * 2 ^ s : Nat) : Int) % 4294967296).toNat = (cn + xn * 2 ^ s) % 4294967296 := by omega
    have q2 : (((cn + xn * 2 ^ s : Nat) : Int) / 4294967296).toNat = (cn + xn * 2 ^ s) / 4294967296 := by omega
    rw [q1, q2, Nat.pow_succ]
    have e2 : (xn + 4294967296 * lval r) * 2 ^ s = xn * 2 ^ s + 4294967296 * (lval r * 2 ^ s) := by rw [Nat.add_mul, Nat.mul_assoc]
    rw [e2]
    generalize xn * 2 ^ s = X
    generalize lval r * 2 ^ s = Y
    generalize 4294967296 ^ o.length = P
    have e3 : cn + (X + 4294967296 * Y) = (cn + X) % 4294967296 + 4294967296 * ((cn + X) / 4294967296 + Y) := by omega
    rw [e3, Nat.mul_add P, Nat.mul_assoc P, Nat.add_assoc]
theorem lval_rep (n : Nat) (l : List Int) : lval (List.replicate n 0 ++ l) = 4294967296 ^ n * lval l := by
  induction n with
  | zero => simp
  | succ n ih =>
    rw [List.replicate_succ, List.cons_append]
    simp only [lval, ih, Nat.pow_succ, Int.toNat_zero, Nat.zero_add]
    rw [Nat.mul_comm (4294967296 ^ n) 4294967296, Nat.mul_assoc]
theorem limb_rep (n : Nat) : Limb (List.replicate n 0) := fun x hx => by
  rw [(List.mem_replicate.1 hx).2]; omega
theorem b32_pow (n : Nat) : (4294967296 : Nat) ^ n = 2 ^ (32 * n) := by rw [Nat.pow_mul]
/-- a shift to the left by n digits -/
theorem shl_val {l : List Int} (hl : Limb l) (n : Nat) : Limb ((shlC (n % 32) l 0 (List.replicate (n / 32) 0)).1 ++ [(shlC (n % 32) l 0 (List.replicate (n / 32) 0)).2]) ∧
    lval ((shlC (n % 32) l 0 (List.replicate (n / 32) 0)).1 ++ [(shlC (n % 32) l 0 (List.replicate (n / 32) 0)).2]) = lval l * 2 ^ n := by
  have hs : n % 32 < 32 := Nat.mod_lt _ (by decide)
  have hp : (0 : Int) < 2 ^ (n % 32) := Int.pow_pos (by decide)
  obtain ⟨k1, k2, k3, k4, k5⟩ := shlC_ok hs l 0 (List.replicate (n / 32) 0) hl (Int.le_refl _) hp (limb_rep _)
  have h31 : ((2 : Int) ^ (n % 32)) ≤ 2147483648 := by
    have h1 : (2 : Nat) ^ (n % 32) ≤ 2 ^ 31 := Nat.pow_le_pow_right (by decide) (by omega)
    have : ((2 : Int) ^ (n % 32)) = ((2 ^ (n % 32) : Nat) : Int) := by simp
    rw [this]; omega
  refine ⟨k1.append (Limb.one (by omega)), ?_⟩
  rw [lval_append, k2]
  simp only [lval, Nat.mul_zero, Nat.add_zero]
  rw [k5]
  have e0 := lval_rep (n / 32) []
  simp only [List.append_nil, lval, Nat.mul_zero] at e0
  rw [e0, List.length_replicate, Nat.zero_add, Int.toNat_zero, Nat.zero_add, b32_pow, Nat.mul_comm, Nat.mul_assoc, ← Nat.pow_add]
  congr 2; omega
/-! ### Shifts to the right -/
def shrC (s : Nat) : List Int → List Int
  | [] => []
  | x :: r => (((x + r.getD 0 0 * 4294967296) / 2 ^ s) % 4294967296) :: shrC s r
theorem shr_digit {s : Nat} (hs : s < 32) (x v : Nat) (hx : x < 4294967296) : (x + 4294967296 * v) / 2 ^ s = (x + 4294967296 * (v % 4294967296)) / 2 ^ s % 4294967296 + 4294967296 * (v / 2 ^ s) := by
  have h1 : (x + 4294967296 * v) / 2 ^ s / 4294967296 = v / 2 ^ s := by
    rw [Nat.div_div_eq_div_mul, Nat.mul_comm (2 ^ s), ← Nat.div_div_eq_div_mul]
    congr 1; omega
  have h2 : (x + 4294967296 * v) / 2 ^ s % 4294967296 = (x + 4294967296 * (v % 4294967296)) / 2 ^ s % 4294967296 := by
    have e : x + 4294967296 * v = (x + 4294967296 * (v % 4294967296)) + 2 ^ s * (4294967296 * (2 ^ (32 - s) * (v / 4294967296))) := by
      have e3 : 2 ^ s * (4294967296 * (2 ^ (32 - s) * (v / 4294967296))) = (2 ^ s * 2 ^ (32 - s)) * (4294967296 * (v / 4294967296)) := by
        rw [Nat.mul_left_comm 4294967296, Nat.mul_assoc]
      rw [e3, pow32 hs]; omega
    rw [e, Nat.add_mul_div_left _ _ (Nat.two_pow_pos s), Nat.add_mul_mod_self_left]
  omega
theorem shrC_ok {s : Nat} (hs : s < 32) : ∀ {l : List Int}, Limb l → Limb (shrC s l) ∧ lval (shrC s l) = lval l / 2 ^ s ∧ (shrC s l).length = l.length
  | [], _ => ⟨Limb.nil, by simp [shrC, lval], rfl⟩
  | x :: r, h => by
    obtain ⟨hx, hr⟩ := h.cons
    obtain ⟨k1, k2, k3⟩ := shrC_ok hs hr
    have hg := limb_getD hr 0
    obtain ⟨xn, rfl⟩ := Int.eq_ofNat_of_zero_le hx.1
    have ev := lval_drop (l := r) (i := 0)
    rw [List.drop_zero] at ev
    obtain ⟨yn, hy⟩ := Int.eq_ofNat_of_zero_le hg.1
    have ep : ((2 : Int) ^ s) = ((2 ^ s : Nat) : Int) := by simp
    have e1 : ((xn : Int) + r.getD 0 0 * 4294967296) / 2 ^ s % 4294967296 = (((xn + 4294967296 * yn) / 2 ^ s % 4294967296 : Nat) : Int) := by
      rw [hy, ep, Int.natCast_emod, Int.natCast_ediv]
      congr 2
      simp only [Int.natCast_add, Int.natCast_mul]
      show (xn : Int) + (yn : Int) * 4294967296 = (xn : Int) + 4294967296 * (yn : Int)
      omega
    have hyv : lval r % 4294967296 = yn := by rw [ev, hy, Int.toNat_natCast]; omega
    refine ⟨?_, ?_, by simp only [shrC, List.length_cons, k3]⟩
    · simp only [shrC]; rw [e1]; exact Limb.mk (by omega) k1
    · simp only [shrC, lval]
      rw [e1, k2, Int.toNat_natCast, Int.toNat_natCast, shr_digit hs xn (lval r) (by omega), hyv]
theorem shr_val {l : List Int} (hl : Limb l) (n : Nat) : Limb (shrC (n % 32) (l.drop (n / 32))) ∧ lval (shrC (n % 32) (l.drop (n / 32))) = lval l / 2 ^ n := by
  obtain ⟨k1, k2, _⟩ := shrC_ok (s := n % 32) (Nat.mod_lt _ (by decide)) (limb_drop hl (n / 32))
  refine ⟨k1, ?_⟩
  have e := lval_split l (n / 32)
  have ht := take_lt hl (n / 32)
  have e1 : lval (l.drop (n / 32)) = lval l / 4294967296 ^ (n / 32) := by
    rw [e, Nat.add_mul_div_left _ _ (Nat.pow_pos (by decide)), Nat.div_eq_of_lt ht, Nat.zero_add]
  rw [k2, e1, b32_pow, Nat.div_div_eq_div_mul, ← Nat.pow_add]
  congr 2; omega
/-! ### Digits -/
/-- how many zeros stand at the end -/
def tz (n : Nat) : Nat := if h : n = 0 then 0 else if n % 2 = 0 then tz (n / 2) + 1 else 0
termination_by n
decreasing_by omega
theorem tz_even {n : Nat} (h : n ≠ 0) (h2 : n % 2 = 0) : tz n = tz (n / 2) + 1 := by rw [tz]; simp [h, h2]
theorem tz_odd {n : Nat} (h : n % 2 = 1) : tz n = 0 := by rw [tz]; simp [show n ≠ 0 by omega, show ¬ n % 2 = 0 by omega]
theorem tz_dig (n : Nat) (h : n ≠ 0) : (∀ i, i < tz n → n / 2 ^ i % 2 = 0) ∧ n / 2 ^ tz n % 2 = 1 ∧ 2 ^ tz n * (n / 2 ^ tz n) = n := by
  induction n using Nat.strongRecOn with
  | _ n ih =>
    by_cases h2 : n % 2 = 0
    · obtain ⟨a, b, c⟩ := ih (n / 2) (by omega) (by omega)
      rw [tz_even h h2]
      have e : ∀ i, n / 2 ^ (i + 1) = n / 2 / 2 ^ i := fun i => by rw [Nat.pow_succ, Nat.mul_comm, Nat.div_div_eq_div_mul]
      refine ⟨fun i hi => ?_, by rw [e]; exact b, ?_⟩
      · cases i with
        | zero => simpa using h2
        | succ i => rw [e]; exact a i (by omega)
      · rw [e, Nat.pow_succ, Nat.mul_comm _ 2, Nat.mul_assoc, c]; omega
    · rw [tz_odd (by omega)]
      exact ⟨fun i hi => by omega, by simp; omega, by simp⟩
theorem tz_shift {n : Nat} (h : n ≠ 0) : ∀ k : Nat, tz (n * 2 ^ k) = tz n + k
  | 0 => by simp
  | k + 1 => by
    have hp : 0 < 2 ^ k := Nat.two_pow_pos k
    have hn : n * 2 ^ k ≠ 0 := Nat.mul_ne_zero h (by omega)
    rw [Nat.pow_succ, ← Nat.mul_assoc, tz_even (Nat.mul_ne_zero hn (by decide)) (by omega), show n * 2 ^ k * 2 / 2 = n * 2 ^ k by omega, tz_shift h k]; omega
/-- a digit of a limb -/
theorem lb_dig (n z : Nat) : (lb n).getD (z / 32) 0 / 2 ^ (z % 32) % 2 = ((n / 2 ^ z % 2 : Nat) : Int) := by
  rw [lb_getD]
  have ep : ((2 : Int) ^ (z % 32)) = ((2 ^ (z % 32) : Nat) : Int) := by simp
  rw [ep, ← Int.natCast_ediv]
  show (((n / 4294967296 ^ (z / 32) % 4294967296 / 2 ^ (z % 32) : Nat) : Int) % ((2 : Nat) : Int)) = _
  rw [← Int.natCast_emod]
  congr 1
  have hs : z % 32 < 32 := Nat.mod_lt _ (by decide)
  have e1 : n / 4294967296 ^ (z / 32) % 4294967296 / 2 ^ (z % 32) = n / 4294967296 ^ (z / 32) / 2 ^ (z % 32) % 2 ^ (32 - z % 32) := by
    rw [← pow32 hs]
    exact Nat.mod_mul_right_div_self _ _ _
  rw [e1, b32_pow, Nat.div_div_eq_div_mul, ← Nat.pow_add, show 32 * (z / 32) + z % 32 = z by omega]
  have e2 : (2 : Nat) ^ (32 - z % 32) = 2 * 2 ^ (31 - z % 32) := by rw [show 32 - z % 32 = 31 - z % 32 + 1 by omega, Nat.pow_succ, Nat.mul_comm]
  rw [e2, Nat.mod_mul_right_mod]
theorem lb_in {n z : Nat} (h : n / 2 ^ z ≠ 0) : z / 32 < (lb n).length := by
  refine lb_lt fun e => h ?_
  rw [b32_pow] at e
  have : n / 2 ^ z = n / 2 ^ (32 * (z / 32)) / 2 ^ (z % 32) := by rw [Nat.div_div_eq_div_mul, ← Nat.pow_add]; congr 2; omega
  rw [this, e]; simp
end Go.Nv
