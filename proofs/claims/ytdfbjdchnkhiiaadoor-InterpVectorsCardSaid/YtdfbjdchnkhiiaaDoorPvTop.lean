/-
  Functions by themselves: typed arguments, typed results; and what a caller is told of them.
-/
import Derived.Test.YtdfbjdchnkhiiaaDoorPvLoop
namespace Go.Pv

def argsV : (sa : List VS) → (Shape.den (sa.map fun s => (0, s))) → List V
  | [], _ => []
  | s :: r, x => s.v 0 x.1 :: argsV r x.2

abbrev Sig := List VS
@[reducible] def Sig.den (sa : Sig) : Type := Shape.den (sa.map fun s => (0, s))

/-- results stand in a frame, from 0 on -/
def resShape : Nat → Sig → Shape
  | _, [] => []
  | i, s :: r => (i, s) :: resShape (i + 1) r

noncomputable section
def topE {R : Type} (P : Program) (T : TypeId → TT) (callE : (R : Type) → CallE R) (lss : List LoopSpec) (f : FuncId) (args : List V) (K : List V → Mem → Option R) : Option R :=
  match P.funcs[f]? with
  | none => none
  | some fn => match fn.body with
    | none => none
    | some code => bif Nat.ble args.length fn.ntmps then
        codeE T (callE R) fn.ntmps (loopHook T callE fn.ntmps 100000 lss 5 R) 100000 code (paramsE args 0) (fun _ => .none) 0 fun ex ρ M _ => match ex with
          | .exit _ => none
          | _ => match resE T ρ M fn.results.toList with
            | none => none
            | some vs => K vs M
      else none

def evalF (P : Program) (T : TypeId → TT) (callE : (R : Type) → CallE R) (lss : List LoopSpec) (f : FuncId) (sa sr : Sig) (x : sa.den) : Option (Shape.den (resShape 0 sr)) :=
  topE P T callE lss f (argsV sa x) fun vs M => Shape.grab (paramsE vs 0) M (resShape 0 sr) []
end

/-- since the call began: nothing old has changed -/
def Since (w0 : World) (Z0 : Nat → Prop) : Say := fun β M Z w =>
  (∀ cb, Z0 cb → Z cb) ∧ (∀ cb, Z cb → Z0 cb ∨ w0.heap.size ≤ cb) ∧ w0.heap.size ≤ w.heap.size ∧ (∀ cb, cb < w0.heap.size → w.heap[cb]? = w0.heap[cb]?) ∧
    (∀ cb, owned β M cb → w0.heap.size ≤ cb) ∧ Wd w0 w

theorem Since.loose (w0 : World) (Z0 : Nat → Prop) : (Since w0 Z0).Loose := by
  constructor
  · intro β M Z w β' M' Z' w' ⟨h1, h2, h3, h4, h5, h6⟩ ev
    refine ⟨fun cb hz => ev.zmono cb (h1 cb hz), fun cb hz => ?_, Nat.le_trans h3 ev.size, fun cb hlt => ?_, fun cb ho => ?_, h6.trans ev.wd⟩
    · rcases ev.znew cb hz with h | h | h
      · exact h2 cb h
      · exact .inr (Nat.le_trans h3 h)
      · exact .inr (h5 cb h)
    · rw [ev.frame cb (Nat.lt_of_lt_of_le hlt h3) (fun ho => by have := h5 cb ho; omega), h4 cb hlt]
    · rcases ev.own cb ho with h | h
      · exact Nat.le_trans h3 h
      · exact h5 cb h
  · intro β M Z w β' M' ⟨h1, h2, h3, h4, h5, h6⟩ ho
    exact ⟨h1, h2, h3, h4, fun cb h => h5 cb (ho cb h), h6⟩

def retVal (us : List Value) : Value := if h : us.toArray.size = 1 then us.toArray[0] else .tuple us.toArray

def ResCount (P : Program) (f : FuncId) (n : Nat) : Prop := ∀ fn, P.funcs[f]? = some fn → fn.results.size = n

section
variable {P : Program} {T : TypeId → TT}

theorem resE_length {ρ : Nat → V} {M : Mem} : ∀ {rs : List ResultVar} {vs : List V}, resE T ρ M rs = some vs → vs.length = rs.length
  | [], vs, h => by simp only [resE, Option.some.injEq] at h; subst h; rfl
  | .tmp t :: r, vs, h => by
    simp only [resE] at h
    cases h1 : resE T ρ M r with
    | none => rw [h1] at h; cases h
    | some vs' => rw [h1] at h; simp only [Option.some.injEq] at h; subst h; simp [resE_length h1]
  | .cell ad t :: r, vs, h => by
    simp only [resE] at h
    cases h0 : loadE T M t (ρ ad) (fun e => some e.val) with
    | none => rw [h0] at h; cases h
    | some v =>
      rw [h0] at h
      simp only at h
      cases h1 : resE T ρ M r with
      | none => rw [h1] at h; cases h
      | some vs' => rw [h1] at h; simp only [Option.some.injEq] at h; subst h; simp [resE_length h1]

theorem noneMem {β : Nat → Option Loc} {Z : Nat → Prop} {h : Heap} (hz : ZOk Z h) : RMem β (fun _ => .none) Z h :=
  ⟨fun b => by unfold RB; trivial, fun b b' cb ho _ _ => (by cases ho), fun cb _ ho => (by obtain ⟨b, ho, _⟩ := ho; cases ho), hz⟩

/-- a function by itself -/
theorem evalF_ok (hT : TOK P T) (hm : P.follows .mixedOrders = true) (hname : ∀ (f : FuncId) fn, P.funcs[f]? = some fn → (fn.name == "runtime.NumGoroutine") = false)
    {callE : (R : Type) → CallE R} (hcall : ∀ R, CallsOK P (callE R)) {lss : List LoopSpec} {f : FuncId} {sa sr : Sig} {x : sa.den} {y : Shape.den (resShape 0 sr)}
    (h : evalF P T callE lss f sa sr x = some y) : Callable P f ∧ ∀ (k : Nat) (β : Nat → Option Loc) (Z : Nat → Prop) (w : World) (cargs : List Value), ZOk Z w.heap →
      RL β (fun _ => .none) Z w.heap (argsV sa x) cargs →
      Calls P f cargs.toArray w fun e w' => ∃ us β' Z', e = .returned (retVal us) ∧ (∃ fn, P.funcs[f]? = some fn ∧ us.length = fn.results.size) ∧
        (∀ t, RV β' (Shape.putM (resShape 0 sr) k y) Z' w'.heap (Shape.putT (resShape 0 sr) k y t) (us.getD t undef)) ∧
        RMem β' (Shape.putM (resShape 0 sr) k y) Z' w'.heap ∧ Since w Z β' (Shape.putM (resShape 0 sr) k y) Z' w' := by
  unfold evalF topE at h
  cases hf : P.funcs[f]? with
  | none => rw [hf] at h; cases h
  | some fn =>
    rw [hf] at h
    simp only at h
    cases hb : fn.body with
    | none => rw [hb] at h; cases h
    | some code =>
      rw [hb] at h
      simp only at h
      cases hn : Nat.ble (argsV sa x).length fn.ntmps with
      | false => rw [hn] at h; cases h
      | true =>
        rw [hn] at h
        simp only [cond_true] at h
        have hn := Nat.le_of_ble_eq_true hn
        refine ⟨⟨fn, hf, by rw [hb]; rfl, hname f fn hf⟩, fun k β Z w cargs hz hargs => ?_⟩
        obtain ⟨ex, ρ', M', nx', hk, hw⟩ := codeE_ok (𝒥 := Say.Loose) hT hm (hcall _) (fun J h => h.1) (loopHook_ok (lss := lss) hT hm hcall 5 _) 100000 code _ _ _ _ _ h
        have hex : ∀ id, ex ≠ .exit id := fun id e => by subst e; cases hk
        have hk' : (match resE T ρ' M' fn.results.toList with
            | none => none
            | some vs => Shape.grab (paramsE vs 0) M' (resShape 0 sr) []) = some y := by
          cases ex with
          | normal => exact hk
          | exit id => exact absurd rfl (hex id)
          | ret => exact hk
        cases hres : resE T ρ' M' fn.results.toList with
        | none => rw [hres] at hk'; cases hk'
        | some vs =>
          rw [hres] at hk'
          simp only at hk'
          have hrel : Rel β (fun _ => .none) Z fn.ntmps (paramsE (argsV sa x) 0) { tmps := cargs.toArray ++ Array.replicate (fn.ntmps - cargs.toArray.size) undef, defers := [] } w :=
            Rel.begin (noneMem hz) (by simpa using hargs) hn
          have hs0 : Since w Z β (fun _ => .none) Z w := ⟨fun _ h => h, fun _ h => .inl h, Nat.le_refl _, fun _ _ => rfl, fun cb ho => (by obtain ⟨b, ho, _⟩ := ho; cases ho), Wd.refl _⟩
          refine calls_of_wp hf hb (hw (Since w Z) (Since.loose w Z) β Z _ w _ hrel hs0 fun β' Z' a' w' hr' hj' hd => ?_)
          obtain ⟨us, hus, hrl⟩ := resE_ok hT _ _ hres hr'
          have hrun : (results fn a'.tmps).run P w' = .ok (retVal us) w' := by
            rw [results_eq, Sem.run_bind, Array.mapM_eq_mapM_toList, Sem.run_map, hus]
            rfl
          have hrel2 : Rel β' M' Z' us.length (paramsE vs 0) { tmps := us.toArray, defers := [] } w' := by
            have := Rel.begin (n := us.length) hr'.mem (vs := us.toArray) (by simpa using hrl) (by rw [hrl.1]; exact Nat.le_refl _)
            simpa using this
          obtain ⟨β2, g1, g2⟩ := Shape.ok hrel2 hk' k
          have hlen : us.length = fn.results.size := by rw [← hrl.1, resE_length hres]; simp
          have hpost : a'.defers = [] ∧ ∃ v, (results fn a'.tmps).run P w' = .ok v w' ∧ ∃ us β' Z', (Ending.returned v) = .returned (retVal us) ∧ (∃ fn', some fn = some fn' ∧ us.length = fn'.results.size) ∧
              (∀ t, RV β' (Shape.putM (resShape 0 sr) k y) Z' w'.heap (Shape.putT (resShape 0 sr) k y t) (us.getD t undef)) ∧
              RMem β' (Shape.putM (resShape 0 sr) k y) Z' w'.heap ∧ Since w Z β' (Shape.putM (resShape 0 sr) k y) Z' w' := by
            refine ⟨hd, _, hrun, us, β2, Z', rfl, ⟨fn, rfl, hlen⟩, fun t => ?_, g1.mem, (Since.loose w Z).2 hj' g2⟩
            have := g1.tmps t
            simpa using this
          cases ex with
          | normal => exact hpost
          | exit id => exact absurd rfl (hex id)
          | ret => exact hpost

end
end Go.Pv
