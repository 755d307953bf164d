/-
  Calls that are run in place, the end: results, parameters, the whole.
-/
import Derived.Test.YtdfbjdchnkhiiaaDoorPvCall1
namespace Go.Pv

section
variable {P : Program} {T : TypeId → TT} {R : Type}
variable {β β' : Nat → Option Loc} {M M' : Mem} {Z Z' : Nat → Prop} {nt : Nat} {ρ : Nat → V} {a : Act} {w w' : World}

/-- one result -/
def oneResult (tmps : Array Value) : ResultVar → Sem Value
  | .tmp t => pure (tmps.getD t undef)
  | .cell a t => do loadVar t (← asAddr (tmps.getD a undef))

theorem results_eq (fn : Func) (tmps : Array Value) : results fn tmps = (do let vs ← fn.results.mapM (oneResult tmps); pure (if h : vs.size = 1 then vs[0] else .tuple vs)) := by
  unfold results
  congr 1

theorem loadAt_asAddr {t : TypeId} {v u : Value} (h : (Instr.loadAt t v).run P w = .ok u w) : (do loadVar t (← asAddr v) : Sem Value).run P w = .ok u w := by
  unfold Instr.loadAt at h
  cases v with
  | pointer p =>
    cases p with
    | some ad => exact h
    | none => simp [Instr.sureAddr, stuck, Sem.run_bind, Result.andThen] at h
  | _ => simp [Instr.sureAddr, stuck, Sem.run_bind, Result.andThen] at h

theorem resE_ok (hT : TOK P T) : ∀ (rs : List ResultVar) (vs : List V), resE T ρ M rs = some vs → Rel β M Z nt ρ a w →
    ∃ us, (rs.mapM (oneResult a.tmps)).run P w = .ok us w ∧ RL β M Z w.heap vs us
  | [], vs, h, _ => by
    simp only [resE, Option.some.injEq] at h; subst h
    exact ⟨[], by simp, RL.nil⟩
  | .tmp t :: r, vs, h, hr => by
    simp only [resE] at h
    cases h1 : resE T ρ M r with
    | none => rw [h1] at h; cases h
    | some vs' =>
      rw [h1] at h; simp only [Option.some.injEq] at h; subst h
      obtain ⟨us, e1, e2⟩ := resE_ok hT r vs' h1 hr
      exact ⟨_ :: us, by simp [List.mapM_cons, oneResult, e1], RL.cons (hr.tmps t) e2⟩
  | .cell ad t :: r, vs, h, hr => by
    simp only [resE] at h
    cases h0 : loadE T M t (ρ ad) (fun e => some e.val) with
    | none => rw [h0] at h; cases h
    | some v =>
      rw [h0] at h
      simp only at h
      cases h1 : resE T ρ M r with
      | none => rw [h1] at h; cases h
      | some vs' =>
        rw [h1] at h; simp only [Option.some.injEq] at h; subst h
        obtain ⟨us, e1, e2⟩ := resE_ok hT r vs' h1 hr
        obtain ⟨val, fp, h2, h3⟩ := loadE_spec hT h0
        simp only [Option.some.injEq] at h2; subst h2
        obtain ⟨u, h4, h5⟩ := h3 M (fun _ _ => rfl) β Z w _ hr.mem (hr.tmps ad)
        have h6 := loadAt_asAddr h4
        refine ⟨u :: us, ?_, RL.cons h5 e2⟩
        rw [List.mapM_cons]
        simp only [Sem.run_bind]
        rw [show (oneResult a.tmps (.cell ad t)).run P w = .ok u w from h6]
        simp [e1]

theorem retV_ok {vs : List V} {us : List Value} {h : Heap} (hr : RL β M Z h vs us) : RV β M Z h (retV vs) (if h : us.toArray.size = 1 then us.toArray[0] else .tuple us.toArray) := by
  cases vs with
  | nil =>
    have : us = [] := by have := hr.1; simpa using this.symm
    subst this
    exact .tup [] #[] rfl (fun i hi => by simp at hi)
  | cons x r =>
    obtain ⟨u, us', rfl, hx, hr'⟩ := hr.cons_inv
    cases r with
    | nil =>
      have : us' = [] := by have := hr'.1; simpa using this.symm
      subst this
      simpa [retV] using hx
    | cons y r =>
      have hl : ¬ (u :: us').toArray.size = 1 := by
        have := hr'.1; simp at this ⊢; intro e; subst e; simp at this
      rw [dif_neg hl]
      obtain ⟨e1, e2⟩ := RL.to_arr (vs := (u :: us').toArray) (by simpa using hr)
      exact .tup _ _ e1 e2

/-- the frame at the beginning -/
theorem params_ok {h : Heap} : ∀ {args : List V} {vs : List Value} (_ : RL β M Z h args vs) (i t : Nat), RV β M Z h (paramsE args i t) (if t < i then undef else vs.getD (t - i) undef)
  | [], vs, hr, i, t => by exact .dead _
  | x :: r, vs, hr, i, t => by
    obtain ⟨v, vs', rfl, hx, hr'⟩ := hr.cons_inv
    simp only [paramsE]
    by_cases e : t = i
    · subst e; rw [setT_same]; simpa using hx
    · rw [setT_ne _ _ e]
      have := params_ok hr' (i + 1) t
      by_cases hlt : t < i
      · rw [if_pos hlt]; rw [if_pos (by omega)] at this; exact this
      · rw [if_neg hlt]; rw [if_neg (by omega)] at this
        rw [show t - i = (t - (i + 1)) + 1 from by omega]
        simpa using this

theorem Rel.begin {args : List V} {vs : Array Value} {n : Nat} (hm : RMem β M Z w.heap) (hr : RL β M Z w.heap args vs.toList) (hn : args.length ≤ n) :
    Rel β M Z n (paramsE args 0) { tmps := vs ++ Array.replicate (n - vs.size) undef, defers := [] } w := by
  have hl : args.length = vs.size := by simpa using hr.1
  refine ⟨fun t => ?_, by simp; omega, hm⟩
  have := params_ok hr 0 t
  simp only [Nat.not_lt_zero, if_false, Nat.sub_zero] at this
  have e : (vs ++ Array.replicate (n - vs.size) undef).getD t undef = vs.toList.getD t undef := by
    by_cases ht : t < vs.size
    · simp [Array.getElem?_append, ht]
    · simp [Array.getElem?_append, ht, Array.getElem?_replicate]
      split <;> simp
  rw [e]; exact this

theorem forceNs_eq : ∀ (l : List Nat) (k : List Nat → Option R), forceNs l k = k l
  | [], k => rfl
  | b :: r, k => by simp only [forceNs, forceN_eq, forceNs_eq r]

theorem blkForce_eq (x : Blk) (k : Blk → Option R) : x.force k = k x := by
  cases x <;> simp only [Blk.force, forceL2_eq]

theorem forceUp_eq : ∀ (l : List (Nat × Blk)) (k : List (Nat × Blk) → Option R), forceUp l k = k l
  | [], k => rfl
  | (b, x) :: r, k => by simp only [forceUp, forceN_eq, blkForce_eq, forceUp_eq r]

theorem isNone_iff {x : Blk} (h : x.isNone = true) : x = .none := by cases x <;> simp_all [Blk.isNone]

theorem inlineE_ok (hT : TOK P T) (hm : P.follows .mixedOrders = true) (hname : ∀ (f : FuncId) fn, P.funcs[f]? = some fn → (fn.name == "runtime.NumGoroutine") = false)
    {callE : CallE R} (hcall : CallsOK P callE) : CallsOK P (inlineE P T callE) := by
  intro f args M id c r h
  unfold inlineE at h
  cases hf : P.funcs[f]? with
  | none => rw [hf] at h; cases h
  | some fn =>
    rw [hf] at h
    simp only at h
    cases hb : fn.body with
    | none => rw [hb] at h; cases h
    | some code =>
      rw [hb] at h
      simp only [forceL2_eq, forceNs_eq, forceN_eq] at h
      generalize reach M 1000 (refsL args) [] = fp0 at h
      cases hc : closedN M fp0 && subN (refsL args) fp0 && Nat.ble args.length fn.ntmps with
      | false => rw [hc] at h; cases h
      | true =>
        rw [hc] at h
        simp only [cond_true] at h
        simp only [Bool.and_eq_true] at hc
        obtain ⟨⟨hc1, hc2⟩, hc3⟩ := hc
        rw [closedN_iff] at hc1
        rw [subN_iff] at hc2
        have hc3 := Nat.le_of_ble_eq_true hc3
        obtain ⟨ex, ρ', M', nx', hk, hw⟩ := codeE_ok (𝒥 := Say.Kept) hT hm hcall (fun _ h => h) noHook_ok 100000 code _ _ _ _ _ h
        have hex : ∀ id, ex ≠ .exit id := fun id e => by subst e; simp [leaveE] at hk
        have hk' : (match resE T ρ' M' fn.results.toList with
          | none => none
          | some vs => (retV vs).force fun v => forceNs (reach M' 1000 (v.refs ++ fp0) []) fun ids =>
            bif closedN M' ids && subN v.refs ids && subN fp0 ids && ids.all (fun b => hasN b fp0 || (M b).isNone) then
              forceUp (ids.map fun b => (b, M' b)) fun u => c { val := v, upd := u, fp := ids }
            else none) = some r := by
          cases ex with
          | normal => exact hk
          | exit id => exact absurd rfl (hex id)
          | ret => exact hk
        cases hres : resE T ρ' M' fn.results.toList with
        | none => rw [hres] at hk'; cases hk'
        | some vs =>
          rw [hres] at hk'
          simp only [force_eq, forceNs_eq] at hk'
          generalize reach M' 1000 ((retV vs).refs ++ fp0) [] = ids at hk'
          cases hi : closedN M' ids && subN (retV vs).refs ids && subN fp0 ids && ids.all (fun b => hasN b fp0 || (M b).isNone) with
          | false => rw [hi] at hk'; cases hk'
          | true =>
            rw [hi] at hk'
            simp only [cond_true, forceUp_eq] at hk'
            simp only [Bool.and_eq_true] at hi
            obtain ⟨⟨⟨i1, i2⟩, i3⟩, i4⟩ := hi
            rw [closedN_iff] at i1
            rw [subN_iff] at i2 i3
            have i4 : ∀ b ∈ ids, b ∈ fp0 ∨ M b = .none := fun b hb => by
              have := List.all_eq_true.1 i4 b hb
              rcases Bool.or_eq_true _ _ ▸ this with h | h
              · exact .inl (hasN_iff.1 h)
              · exact .inr (isNone_iff h)
            refine ⟨_, ⟨?_, ⟨fn, hf, by rw [hb]; rfl, hname f fn hf⟩, ?_⟩, hk'⟩
            · simp
            · intro M2 hM β Z w cargs hmem hargs
              have hMf : ∀ b ∈ fp0, M2 b = M b := fun b hb => hM b (i3 b hb)
              have hcl : ∀ b ∈ fp0, ∀ x ∈ (M2 b).refs, x ∈ fp0 := fun b hb => by rw [hMf b hb]; exact hc1 b hb
              have hent := hmem.enter hcl
              have honly : M2.only fp0 = M.only fp0 := by
                funext b
                by_cases hb : b ∈ fp0
                · rw [only_in hb, only_in hb, hMf b hb]
                · rw [only_out hb, only_out hb]
              have hargs' : RL β (M2.only fp0) Z w.heap args cargs := ⟨hargs.1, fun i x v hx hv => (hargs.2 i x v hx hv).keepRefs fun b hb => by
                have hlt : i < args.length := (List.getElem?_eq_some_iff.1 hx).1
                have hxi : args[i] = x := (List.getElem?_eq_some_iff.1 hx).2
                exact ⟨only_in (hc2 b (refsL_mem hlt (by rw [hxi]; exact hb))), rfl⟩⟩
              have hrel : Rel β (M.only fp0) Z fn.ntmps (paramsE args 0) { tmps := cargs.toArray ++ Array.replicate (fn.ntmps - cargs.toArray.size) undef, defers := [] } w := by
                rw [← honly]
                exact Rel.begin hent (by simpa using hargs') hc3
              refine calls_of_wp hf hb (hw (fun β' M' Z' w' => EvW β (M.only fp0) Z w β' M' Z' w') (fun h1 h2 => h1.trans h2) β Z _ w _ hrel (EvW.refl _ _ _ _) fun β' Z' a' w' hr' hev hd => ?_)
              obtain ⟨us, hus, hrl⟩ := resE_ok hT _ _ hres hr'
              have hrun : (results fn a'.tmps).run P w' = .ok (if h : us.toArray.size = 1 then us.toArray[0] else .tuple us.toArray) w' := by
                rw [results_eq, Sem.run_bind, Array.mapM_eq_mapM_toList, Sem.run_map, hus]
                rfl
              have hev2 : Ev β (M2.only fp0) Z w.heap β' M' Z' w'.heap := by rw [honly]; exact hev.toEv
              obtain ⟨l1, l2, l3⟩ := leave hmem hr'.mem hev2 i1 i3 (fun b hb => by
                rcases i4 b hb with h | h
                · exact .inl h
                · exact .inr ((hM b hb).trans h))
              have hpost : a'.defers = [] ∧ ∃ v, (results fn a'.tmps).run P w' = .ok v w' ∧ ∃ v' β' Z', (Ending.returned v) = .returned v' ∧ RV β' (M2.upds (ids.map fun b => (b, M' b))) Z' w'.heap (retV vs) v' ∧
                  RMem β' (M2.upds (ids.map fun b => (b, M' b))) Z' w'.heap ∧ EvW β M2 Z w β' (M2.upds (ids.map fun b => (b, M' b))) Z' w' := by
                refine ⟨hd, _, hrun, _, joinB β β' ids, Z', rfl, ?_, ?_, ?_⟩ <;> rw [upds_join]
                · exact l3 _ _ (retV_ok hrl) i2
                · exact l1
                · exact ⟨l2, hev.wd⟩
              cases ex with
              | normal => exact hpost
              | exit id => exact absurd rfl (hex id)
              | ret => exact hpost

def SpecOK (P : Program) {R : Type} (spec : FuncId → Option (List V → Mem → Nat → (Eff → Option R) → Option R)) : Prop :=
  ∀ f s, spec f = some s → ∀ args M id (c : Eff → Option R) r, s args M id c = some r → ∃ eff, CallOK P f args M eff ∧ c eff = some r

theorem callsE_ok (hT : TOK P T) (hm : P.follows .mixedOrders = true) (hname : ∀ (f : FuncId) fn, P.funcs[f]? = some fn → (fn.name == "runtime.NumGoroutine") = false)
    {spec : FuncId → Option (List V → Mem → Nat → (Eff → Option R) → Option R)} (hs : SpecOK P spec) : ∀ d, CallsOK P (callsE P T spec d)
  | 0 => fun f args M id c r h => by simp [callsE] at h
  | d + 1 => fun f args M id c r h => by
    simp only [callsE] at h
    cases hf : spec f with
    | some s => rw [hf] at h; exact hs f s hf _ _ _ _ _ h
    | none => rw [hf] at h; exact inlineE_ok hT hm hname (callsE_ok hT hm hname hs d) _ _ _ _ _ _ h

end
end Go.Pv
