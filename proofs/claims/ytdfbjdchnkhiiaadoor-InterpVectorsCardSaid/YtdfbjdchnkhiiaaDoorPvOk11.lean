/-
  Every operation: the abstract run is right.
-/
import Derived.Test.YtdfbjdchnkhiiaaDoorPvOkCp
namespace Go.Pv

/-- The function may be called: it has a body. -/
def Callable (P : Program) (f : FuncId) : Prop := ∃ fn, P.funcs[f]? = some fn ∧ fn.body.isSome = true ∧ (fn.name == "runtime.NumGoroutine") = false

/-- A call, from what the abstract values and memory stand for, does what the effect says. -/
def CallOK (P : Program) (f : FuncId) (args : List V) (M : Mem) (eff : Eff) : Prop :=
  (∀ b, b ∈ eff.upd.map (·.1) → b ∈ eff.fp) ∧ Callable P f ∧
  ∀ (M2 : Mem), (∀ b ∈ eff.fp, M2 b = M b) → ∀ (β : Nat → Option Loc) (Z : Nat → Prop) (w : World) (cargs : List Value), RMem β M2 Z w.heap → RL β M2 Z w.heap args cargs →
    Calls P f cargs.toArray w fun e w' => ∃ v β' Z', e = .returned v ∧ RV β' (M2.upds eff.upd) Z' w'.heap eff.val v ∧ RMem β' (M2.upds eff.upd) Z' w'.heap ∧ EvW β M2 Z w β' (M2.upds eff.upd) Z' w'

def CallsOK (P : Program) {R : Type} (callE : FuncId → List V → Mem → Nat → (Eff → Option R) → Option R) : Prop :=
  ∀ f args M id (c : Eff → Option R) r, callE f args M id c = some r → ∃ eff, CallOK P f args M eff ∧ c eff = some r

section
variable {P : Program} {T : TypeId → TT} {o : Oper} {ev : Operand → V} {M : Mem} {R : Type}

theorem call_ok {callE : FuncId → List V → Mem → Nat → (Eff → Option R) → Option R} (hcall : CallsOK P callE) {q : Call} {f : Operand} {g : FuncId} {cap : List V} {id : Nat}
    (ho : o.op = .call q) (hq : q.callee = .value f) (hf : ev f = .fn g cap) : SOp P o ev M (R := R) (callE g (q.args.toList.map ev ++ cap) M id) := by
  intro c r hr
  obtain ⟨eff, ⟨h1, ⟨fn, c1, c2, c3⟩, h2⟩, h3⟩ := hcall _ _ _ _ _ _ hr
  refine ⟨eff, ⟨h1, fun M2 hM β Z a w hm hx next Q hn => ?_⟩, h3⟩
  have pf := hx f (by simp [ho, Op.operands, Call.operands, hq])
  rw [hf] at pf
  obtain ⟨vs, e1, hl, hc⟩ := pf.fn_inv
  have hargs : RL β M2 Z w.heap (q.args.toList.map ev ++ cap) ((q.args.map a.eval).toList ++ vs.toList) := by
    refine RL.append ?_ (RL.of_arr hl hc)
    rw [Array.toList_map]
    refine RL.map_ops fun x hxx => hx x ?_
    simp only [ho, Op.operands, Call.operands, hq, Array.toList_append, List.mem_append]
    exact .inr hxx
  have hcalls := h2 M2 hM β Z w _ hm hargs
  have hrun : (execOp a.eval o).run P w = .ok (.enter g (q.args.map a.eval ++ vs)) w := by
    have hb : fn.body.isNone = false := by cases hbb : fn.body <;> simp_all
    simp only [execOp, ho, resolve, hq, e1, Deferred.ofValue, Sem.run_bind, Sem.run_pure, Result.andThen_ok, invoke, callFunc, run_program, c1, c3, Bool.false_eq_true, if_false, hb, Array.empty_append]
  unfold Oper.wp
  rw [hrun, Oper.upon_enter]
  have he : ((q.args.map a.eval).toList ++ vs.toList).toArray = q.args.map a.eval ++ vs := by simp
  rw [he] at hcalls
  refine hcalls.mono fun e w' ⟨v, β', Z', h4, h5, h6, h7⟩ => ?_
  subst h4
  exact hn _ _ _ _ h5 h6 h7

theorem two_args {as : Array Operand} {x y : V} (h : as.toList.map ev = [x, y]) : ∃ a0 a1, as = #[a0, a1] ∧ ev a0 = x ∧ ev a1 = y := by
  obtain ⟨l⟩ := as
  cases l with
  | nil => simp at h
  | cons a0 l => cases l with
    | nil => simp at h
    | cons a1 l => cases l with
      | nil => simp at h; exact ⟨a0, a1, rfl, h.1, h.2⟩
      | cons a2 l => simp at h

theorem builtinE_ok (hT : TOK P T) {q : Call} {b : Builtin} {id : Nat} (ho : o.op = .call q) (hq : q.callee = .builtin b) : SOp P o ev M (R := R) (builtinE T M id b q.argTypes.toList (q.args.toList.map ev)) := by
  intro c r hr
  unfold builtinE at hr
  split at hr
  · rename_i t ts x xs h1 h2
    cases hargs : q.args.toList with
    | nil => simp [hargs] at h2
    | cons a0 as =>
      simp only [hargs, List.map_cons, List.cons.injEq] at h2
      obtain ⟨rfl, _⟩ := h2
      exact lenE_ok hT ho hq (by simp [hargs]) (by simp [h1]) c r hr
  · rename_i t t2 ts s x xs h1 h2
    cases hargs : q.args.toList with
    | nil => simp [hargs] at h2
    | cons a0 as =>
      cases as with
      | nil => simp [hargs] at h2
      | cons a1 as =>
        simp only [hargs, List.map_cons, List.cons.injEq] at h2
        obtain ⟨rfl, rfl, _⟩ := h2
        split at hr
        · rename_i e2 hk
          exact appendE_ok hT ho hq (by simp [hargs]) (by simp [hargs]) (by simp [h1]) (by simp [h1]) hk c r hr
        · cases hr
  · rename_i t ts d x xs h1 h2
    cases hargs : q.args.toList with
    | nil => simp [hargs] at h2
    | cons a0 as =>
      cases as with
      | nil => simp [hargs] at h2
      | cons a1 as =>
        simp only [hargs, List.map_cons, List.cons.injEq] at h2
        obtain ⟨rfl, rfl, _⟩ := h2
        exact copyE_ok hT ho hq (by simp [hargs]) (by simp [hargs]) (by simp [h1]) c r hr
  · rename_i x y h2
    obtain ⟨a0, a1, ha, rfl, rfl⟩ := two_args h2
    exact minE_ok (isMax := false) ho (by simpa using hq) ha c r hr
  · rename_i x y h2
    obtain ⟨a0, a1, ha, rfl, rfl⟩ := two_args h2
    exact minE_ok (isMax := true) ho (by simpa using hq) ha c r hr
  · cases hr

/-- every operation -/
theorem opE_ok (hT : TOK P T) {callE : FuncId → List V → Mem → Nat → (Eff → Option R) → Option R} (hcall : CallsOK P callE) (id : Nat) : SOp P o ev M (R := R) (opE T callE id o.op ev M) := by
  intro c r hr
  cases ho : o.op with
  | move x => rw [ho] at hr; exact move_ok (.inl ho) c r hr
  | assign x => rw [ho] at hr; exact move_ok (.inr ho) c r hr
  | pick q a b =>
    rw [ho] at hr
    simp only [opE] at hr
    cases hq : ev q <;> simp only [hq, reduceCtorEq] at hr
    exact pick_ok ho hq c r hr
  | alloc t => rw [ho] at hr; exact allocE_ok hT ho c r hr
  | box t x => rw [ho] at hr; exact boxE_ok ho c r hr
  | build t ps => rw [ho] at hr; exact buildE_ok hT ho c r hr
  | buildSlice t n ps => rw [ho] at hr; exact buildSliceE_ok hT ho c r hr
  | load t a => rw [ho] at hr; exact loadE_ok hT ho c r hr
  | store t a x => rw [ho] at hr; exact storeE_ok hT ho c r hr
  | binOp op t x y ty => rw [ho] at hr; exact binE_ok hT ho c r hr
  | unOp op t x => rw [ho] at hr; exact unE_ok ho c r hr
  | convert s d x => rw [ho] at hr; exact convE_ok hT ho c r hr
  | makeFunc fn first cap =>
    rw [ho] at hr
    cases fn <;> simp only [opE, reduceCtorEq] at hr
    cases hf : first.isEmpty with
    | false => rw [hf] at hr; cases hr
    | true => rw [hf] at hr; exact makeFunc_ok ho hf c r hr
  | makeSlice t l m => rw [ho] at hr; exact makeSliceE_ok hT ho c r hr
  | slice t x lo hi mx => rw [ho] at hr; exact sliceE_ok hT ho c r hr
  | fieldAddr s x f => rw [ho] at hr; exact fieldAddrE_ok hT ho c r hr
  | field s x f => rw [ho] at hr; exact fieldE_ok hT ho c r hr
  | indexAddr t x i => rw [ho] at hr; exact indexAddrE_ok hT ho c r hr
  | index t x i => rw [ho] at hr; exact indexE_ok hT ho c r hr
  | extract x i =>
    rw [ho] at hr
    simp only [opE] at hr
    cases hx : ev x <;> simp only [hx, reduceCtorEq] at hr
    rename_i vs
    cases hv : vs[i]? with
    | none => simp [hv] at hr
    | some v => simp only [hv] at hr; exact extract_ok ho hx hv c r hr
  | call q =>
    rw [ho] at hr
    simp only [opE] at hr
    cases hq : q.callee with
    | value f =>
      simp only [hq] at hr
      cases hf : ev f <;> simp only [hf, reduceCtorEq] at hr
      exact call_ok hcall ho hq hf c r hr
    | invoke _ _ => simp [hq] at hr
    | builtin b => simp only [hq] at hr; exact builtinE_ok hT ho hq c r hr
  | _ => rw [ho] at hr; simp only [opE, reduceCtorEq] at hr

end
end Go.Pv
