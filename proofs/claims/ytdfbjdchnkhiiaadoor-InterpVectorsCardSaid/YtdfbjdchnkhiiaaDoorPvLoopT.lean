/-
  Loops over structured states; splitting cases; functions by themselves, with structured results.
-/
import Derived.Test.YtdfbjdchnkhiiaaDoorPvTree
namespace Go.Pv

structure LoopT where
  id : Nat
  inv : TSh
  out : TSh
  ret : TSh

/-- before a region: a temporary has one of some values -/
structure Split where
  id : Nat
  tmp : Nat
  vals : List Int

def stepT (T : TypeId → TT) (callE : (R : Type) → CallE R) (nt : Nat) (hook : (R : Type) → HookE R) (fuel : Nat) (ls : LoopT) (body : Code) (x : ls.inv.den) : Option (ls.inv.den ⊕ (ls.out.den ⊕ ls.ret.den)) :=
  codeE T (callE _) nt (hook _) fuel body (TSh.putT ls.inv 0 x) (TSh.putM ls.inv 0 x) ls.inv.wid fun ex ρ M _ =>
    match ex with
    | .normal => match TSh.grab ρ M ls.inv with
      | some x => some (.inl x)
      | none => none
    | .exit id => bif Nat.beq id ls.id then (match TSh.grab ρ M ls.out with
      | some y => some (.inr (.inl y))
      | none => none) else none
    | .ret => match TSh.grab ρ M ls.ret with
      | some y => some (.inr (.inr y))
      | none => none

noncomputable def loopHT {R : Type} (T : TypeId → TT) (callE : (R : Type) → CallE R) (nt : Nat) (hook : (R : Type) → HookE R) (fuel : Nat) (ls : LoopT) (body : Code) : (Nat → V) → Mem → Nat → Kont R → Option R := fun ρ M _ K =>
  match TSh.grab ρ M ls.inv with
  | none => none
  | some x => match lim (stepT T callE nt hook fuel ls body) x with
    | none => none
    | some (.inl y) => K .normal (TSh.putT ls.out 0 y) (TSh.putM ls.out 0 y) ls.out.wid
    | some (.inr y) => K .ret (TSh.putT ls.ret 0 y) (TSh.putM ls.ret 0 y) ls.ret.wid

def splitGo {R : Type} (T : TypeId → TT) (callE : CallE R) (nt fuel : Nat) (t : Nat) (k : IntKind) (n : Int) (code : Code) : List Int → (Nat → V) → Mem → Nat → Kont R → Option R
  | [], _, _, _, _ => none
  | v :: r, ρ, M, nx, K => bif decide (n = v) then codeE T callE nt (fun _ => none) fuel code (setT ρ t (.int k v)) M nx K else splitGo T callE nt fuel t k n code r ρ M nx K

def splitH {R : Type} (T : TypeId → TT) (callE : CallE R) (nt fuel : Nat) (s : Split) (code : Code) : (Nat → V) → Mem → Nat → Kont R → Option R := fun ρ M nx K =>
  match ρ s.tmp with
  | .int k n => splitGo T callE nt fuel s.tmp k n code s.vals ρ M nx K
  | _ => none

def findT (id : Nat) : List LoopT → Option LoopT
  | [] => none
  | ls :: r => bif Nat.beq ls.id id then some ls else findT id r
def findSp (id : Nat) : List Split → Option Split
  | [] => none
  | s :: r => bif Nat.beq s.id id then some s else findSp id r

noncomputable def hookT (T : TypeId → TT) (callE : (R : Type) → CallE R) (fuel : Nat) (lts : List LoopT) (sps : List Split) (nt : Nat) : Nat → (R : Type) → HookE R
  | 0 => fun _ _ => none
  | n + 1 => fun R code => match code with
    | .block id (.loop body) => match findT id lts with
      | some ls => some (loopHT T callE nt (hookT T callE fuel lts sps nt n) fuel ls body)
      | none => none
    | .region id ops dr => match findSp id sps with
      | some s => some (splitH T (callE R) nt fuel s (.region id ops dr))
      | none => none
    | _ => none

section
variable {P : Program} {T : TypeId → TT} {R : Type} {nt : Nat}

theorem stepT_ok (hT : TOK P T) (hm : P.follows .mixedOrders = true) {callE : (R : Type) → CallE R} (hcall : ∀ R, CallsOK P (callE R)) {hook : (R : Type) → HookE R} (hh : ∀ R, HookOK P nt Say.Loose (hook R))
    {fuel : Nat} {ls : LoopT} {body : Code} {Q : Exit → Act → World → Prop} {J : Say} (hJ : J.Loose) {y : ls.out.den ⊕ ls.ret.den} :
    ∀ (n : Nat) (x : ls.inv.den), iter (stepT T callE nt hook fuel ls body) n x = some y → ∀ (β : Nat → Option Loc) (Z : Nat → Prop) (a : Act) (w : World),
      Rel β (TSh.putM ls.inv 0 x) Z nt (TSh.putT ls.inv 0 x) a w → J β (TSh.putM ls.inv 0 x) Z w →
      (∀ β' Z' a' w', (match y with
        | .inl y => Rel β' (TSh.putM ls.out 0 y) Z' nt (TSh.putT ls.out 0 y) a' w' ∧ J β' (TSh.putM ls.out 0 y) Z' w'
        | .inr y => Rel β' (TSh.putM ls.ret 0 y) Z' nt (TSh.putT ls.ret 0 y) a' w' ∧ J β' (TSh.putM ls.ret 0 y) Z' w') → a'.defers = a.defers →
        match y with
        | .inl _ => Q .normal a' w'
        | .inr _ => Q .ret a' w') → Rounds P body (Exit.inBlock ls.id Q) n a w
  | 0, x, h => by cases h
  | n + 1, x, h => by
    intro β Z a w hr hj hQ
    simp only [iter] at h
    cases hs : stepT T callE nt hook fuel ls body x with
    | none => rw [hs] at h; cases h
    | some z =>
      rw [hs] at h
      obtain ⟨ex, ρ', M', nx', hk, hw⟩ := codeE_ok (𝒥 := Say.Loose) hT hm (hcall _) (fun J h => h.1) (hh _) fuel body _ _ _ _ _ hs
      refine hw J hJ β Z a w _ hr hj fun β' Z' a' w' hr' hj' hd => ?_
      cases ex with
      | normal =>
        simp only at hk
        cases hg : TSh.grab ρ' M' ls.inv with
        | none => rw [hg] at hk; cases hk
        | some x' =>
          rw [hg] at hk
          cases hk
          obtain ⟨β2, Z2, M2, he, h1, h2⟩ := TSh.ok hr' hg 0
          exact stepT_ok hT hm hcall hh hJ n x' h β2 Z2 a' w' h1 (hJ.2 (hJ.1 hj' he) h2) fun β3 Z3 a3 w3 q1 q2 => hQ β3 Z3 a3 w3 q1 (q2.trans hd)
      | exit id =>
        simp only at hk
        cases hb : Nat.beq id ls.id with
        | false => rw [hb] at hk; cases hk
        | true =>
          rw [hb] at hk
          simp only [cond_true] at hk
          have := Nat.eq_of_beq_eq_true hb
          subst this
          cases hg : TSh.grab ρ' M' ls.out with
          | none => rw [hg] at hk; cases hk
          | some y' =>
            rw [hg] at hk
            cases hk
            simp only [Option.some.injEq] at h
            subst h
            obtain ⟨β2, Z2, M2, he, h1, h2⟩ := TSh.ok hr' hg 0
            have := hQ β2 Z2 a' w' ⟨h1, hJ.2 (hJ.1 hj' he) h2⟩ hd
            simpa [Ex.out, Exit.then, Exit.inBlock] using this
      | ret =>
        simp only at hk
        cases hg : TSh.grab ρ' M' ls.ret with
        | none => rw [hg] at hk; cases hk
        | some y' =>
          rw [hg] at hk
          cases hk
          simp only [Option.some.injEq] at h
          subst h
          obtain ⟨β2, Z2, M2, he, h1, h2⟩ := TSh.ok hr' hg 0
          have := hQ β2 Z2 a' w' ⟨h1, hJ.2 (hJ.1 hj' he) h2⟩ hd
          simpa [Ex.out, Exit.then, Exit.inBlock] using this

theorem loopHT_ok (hT : TOK P T) (hm : P.follows .mixedOrders = true) {callE : (R : Type) → CallE R} (hcall : ∀ R, CallsOK P (callE R)) {hook : (R : Type) → HookE R} (hh : ∀ R, HookOK P nt Say.Loose (hook R))
    {fuel : Nat} {ls : LoopT} {body : Code} : CodeOK (R := R) P nt Say.Loose (.block ls.id (.loop body)) (loopHT T callE nt hook fuel ls body) := by
  intro ρ M nx K r h
  unfold loopHT at h
  cases hg : TSh.grab ρ M ls.inv with
  | none => rw [hg] at h; cases h
  | some x =>
    rw [hg] at h
    simp only at h
    cases hl : lim (stepT T callE nt hook fuel ls body) x with
    | none => rw [hl] at h; cases h
    | some y =>
      rw [hl] at h
      obtain ⟨n, hn⟩ := lim_some.1 hl
      cases y with
      | inl y =>
        refine ⟨_, _, _, _, h, fun J hJ β Z a w Q hr hj hQ => ?_⟩
        obtain ⟨β2, Z2, M2, he, h1, h2⟩ := TSh.ok hr hg 0
        exact wp_block (wp_rounds (stepT_ok hT hm hcall hh hJ n x hn β2 Z2 a w h1 (hJ.2 (hJ.1 hj he) h2) fun β' Z' a' w' q1 q2 => hQ β' Z' a' w' q1.1 q1.2 q2))
      | inr y =>
        refine ⟨_, _, _, _, h, fun J hJ β Z a w Q hr hj hQ => ?_⟩
        obtain ⟨β2, Z2, M2, he, h1, h2⟩ := TSh.ok hr hg 0
        exact wp_block (wp_rounds (stepT_ok hT hm hcall hh hJ n x hn β2 Z2 a w h1 (hJ.2 (hJ.1 hj he) h2) fun β' Z' a' w' q1 q2 => hQ β' Z' a' w' q1.1 q1.2 q2))

theorem splitGo_ok (hT : TOK P T) (hm : P.follows .mixedOrders = true) {callE : CallE R} (hcall : CallsOK P callE) {fuel t : Nat} {k : IntKind} {n : Int} {code : Code} : ∀ {vals : List Int} {ρ : Nat → V} {M : Mem} {nx : Nat} {K : Kont R} {r : R},
    ρ t = .int k n → splitGo T callE nt fuel t k n code vals ρ M nx K = some r → ∃ ex ρ' M' nx', K ex ρ' M' nx' = some r ∧
    ∀ (J : Say), Say.Loose J → ∀ (β : Nat → Option Loc) (Z : Nat → Prop) (a : Act) (w : World) (Q : Exit → Act → World → Prop), Rel β M Z nt ρ a w → J β M Z w →
      (∀ β' Z' a' w', Rel β' M' Z' nt ρ' a' w' → J β' M' Z' w' → a'.defers = a.defers → Q ex.out a' w') → code.wp P Q a w
  | [], ρ, M, nx, K, r, _, h => by cases h
  | v :: vs, ρ, M, nx, K, r, ht, h => by
    simp only [splitGo] at h
    cases hd : decide (n = v) with
    | false => rw [hd] at h; exact splitGo_ok hT hm hcall ht h
    | true =>
      rw [hd] at h
      have := of_decide_eq_true hd
      subst this
      obtain ⟨ex, ρ', M', nx', hk, hw⟩ := codeE_ok (𝒥 := Say.Loose) hT hm hcall (fun J h => h.1) (noHook_ok (P := P) (nt := nt) (𝒥 := Say.Loose)) fuel code _ _ _ _ _ h
      exact ⟨ex, ρ', M', nx', hk, fun J hJ β Z a w Q hr hj hQ => hw J hJ β Z a w Q (hr.know ht) hj hQ⟩

theorem findT_id : ∀ {lss : List LoopT} {id : Nat} {ls : LoopT}, findT id lss = some ls → ls.id = id
  | [], _, _, h => by cases h
  | l :: r, id, ls, h => by
    simp only [findT] at h
    cases hb : Nat.beq l.id id with
    | true => rw [hb] at h; cases h; exact Nat.eq_of_beq_eq_true hb
    | false => rw [hb] at h; exact findT_id h

theorem hookT_ok (hT : TOK P T) (hm : P.follows .mixedOrders = true) {callE : (R : Type) → CallE R} (hcall : ∀ R, CallsOK P (callE R)) {fuel : Nat} {lts : List LoopT} {sps : List Split} :
    ∀ (n : Nat) (R : Type), HookOK P nt Say.Loose (hookT T callE fuel lts sps nt n R)
  | 0, R => fun code h hh => by cases hh
  | n + 1, R => fun code h hh => by
    unfold hookT at hh
    split at hh
    · rename_i id body
      cases hf : findT id lts with
      | none => rw [hf] at hh; cases hh
      | some ls =>
        rw [hf] at hh
        cases hh
        have := findT_id hf
        subst this
        exact loopHT_ok hT hm hcall (hookT_ok hT hm hcall n)
    · rename_i id ops dr
      cases hf : findSp id sps with
      | none => rw [hf] at hh; cases hh
      | some s =>
        rw [hf] at hh
        cases hh
        intro ρ M nx K r h
        unfold splitH at h
        split at h
        · rename_i k m ht
          exact splitGo_ok hT hm (hcall R) ht h
        · cases h
    · cases hh

end

/-! ### Functions by themselves -/
noncomputable section
def evalT (P : Program) (T : TypeId → TT) (callE : (R : Type) → CallE R) (lts : List LoopT) (sps : List Split) (f : FuncId) (sa : Sig) (sr : TSh) (x : sa.den) : Option sr.den :=
  match P.funcs[f]? with
  | none => none
  | some fn => match fn.body with
    | none => none
    | some code => bif Nat.ble (argsV sa x).length fn.ntmps then
        codeE T (callE _) fn.ntmps (hookT T callE 100000 lts sps fn.ntmps 5 _) 100000 code (paramsE (argsV sa x) 0) (fun _ => .none) 0 fun ex ρ M _ => match ex with
          | .exit _ => none
          | _ => match resE T ρ M fn.results.toList with
            | none => none
            | some vs => TSh.grab (paramsE vs 0) M sr
      else none
end

section
variable {P : Program} {T : TypeId → TT}

theorem evalT_ok (hT : TOK P T) (hm : P.follows .mixedOrders = true) (hname : ∀ (f : FuncId) fn, P.funcs[f]? = some fn → (fn.name == "runtime.NumGoroutine") = false)
    {callE : (R : Type) → CallE R} (hcall : ∀ R, CallsOK P (callE R)) {lts : List LoopT} {sps : List Split} {f : FuncId} {sa : Sig} {sr : TSh} {x : sa.den} {y : sr.den}
    (h : evalT P T callE lts sps f sa sr x = some y) : Callable P f ∧ ∀ (k : Nat) (β : Nat → Option Loc) (Z : Nat → Prop) (w : World) (cargs : List Value), ZOk Z w.heap →
      RL β (fun _ => .none) Z w.heap (argsV sa x) cargs →
      Calls P f cargs.toArray w fun e w' => ∃ us β' Z', e = .returned (retVal us) ∧ (∃ fn, P.funcs[f]? = some fn ∧ us.length = fn.results.size) ∧
        (∀ t, RV β' (TSh.putM sr k y) Z' w'.heap (TSh.putT sr k y t) (us.getD t undef)) ∧
        RMem β' (TSh.putM sr k y) Z' w'.heap ∧ Since w Z β' (TSh.putM sr k y) Z' w' := by
  unfold evalT at h
  cases hf : P.funcs[f]? with
  | none => rw [hf] at h; cases h
  | some fn =>
    rw [hf] at h
    simp only at h
    cases hb : fn.body with
    | none => rw [hb] at h; cases h
    | some code =>
      rw [hb] at h
      simp only at h
      cases hn : Nat.ble (argsV sa x).length fn.ntmps with
      | false => rw [hn] at h; cases h
      | true =>
        rw [hn] at h
        simp only [cond_true] at h
        have hn := Nat.le_of_ble_eq_true hn
        refine ⟨⟨fn, hf, by rw [hb]; rfl, hname f fn hf⟩, fun k β Z w cargs hz hargs => ?_⟩
        obtain ⟨ex, ρ', M', nx', hk, hw⟩ := codeE_ok (𝒥 := Say.Loose) hT hm (hcall _) (fun J h => h.1) (hookT_ok (lts := lts) (sps := sps) hT hm hcall 5 _) 100000 code _ _ _ _ _ h
        have hex : ∀ id, ex ≠ .exit id := fun id e => by subst e; cases hk
        have hk' : (match resE T ρ' M' fn.results.toList with
            | none => none
            | some vs => TSh.grab (paramsE vs 0) M' sr) = some y := by
          cases ex with
          | normal => exact hk
          | exit id => exact absurd rfl (hex id)
          | ret => exact hk
        cases hres : resE T ρ' M' fn.results.toList with
        | none => rw [hres] at hk'; cases hk'
        | some vs =>
          rw [hres] at hk'
          simp only at hk'
          have hrel : Rel β (fun _ => .none) Z fn.ntmps (paramsE (argsV sa x) 0) { tmps := cargs.toArray ++ Array.replicate (fn.ntmps - cargs.toArray.size) undef, defers := [] } w :=
            Rel.begin (noneMem hz) (by simpa using hargs) hn
          have hs0 : Since w Z β (fun _ => .none) Z w := ⟨fun _ h => h, fun _ h => .inl h, Nat.le_refl _, fun _ _ => rfl, fun cb ho => (by obtain ⟨b, ho, _⟩ := ho; cases ho), Wd.refl _⟩
          refine calls_of_wp hf hb (hw (Since w Z) (Since.loose w Z) β Z _ w _ hrel hs0 fun β' Z' a' w' hr' hj' hd => ?_)
          obtain ⟨us, hus, hrl⟩ := resE_ok hT _ _ hres hr'
          have hrun : (results fn a'.tmps).run P w' = .ok (retVal us) w' := by
            rw [results_eq, Sem.run_bind, Array.mapM_eq_mapM_toList, Sem.run_map, hus]
            rfl
          have hrel2 : Rel β' M' Z' us.length (paramsE vs 0) { tmps := us.toArray, defers := [] } w' := by
            have := Rel.begin (n := us.length) hr'.mem (vs := us.toArray) (by simpa using hrl) (by rw [hrl.1]; exact Nat.le_refl _)
            simpa using this
          obtain ⟨β2, Z2, M2, he, g1, g2⟩ := TSh.ok hrel2 hk' k
          have hlen : us.length = fn.results.size := by rw [← hrl.1, resE_length hres]; simp
          have hpost : a'.defers = [] ∧ ∃ v, (results fn a'.tmps).run P w' = .ok v w' ∧ ∃ us β' Z', (Ending.returned v) = .returned (retVal us) ∧ (∃ fn', some fn = some fn' ∧ us.length = fn'.results.size) ∧
              (∀ t, RV β' (TSh.putM sr k y) Z' w'.heap (TSh.putT sr k y t) (us.getD t undef)) ∧
              RMem β' (TSh.putM sr k y) Z' w'.heap ∧ Since w Z β' (TSh.putM sr k y) Z' w' := by
            refine ⟨hd, _, hrun, us, β2, Z2, rfl, ⟨fn, rfl, hlen⟩, fun t => ?_, g1.mem, (Since.loose w Z).2 ((Since.loose w Z).1 hj' he) g2⟩
            have := g1.tmps t
            simpa using this
          cases ex with
          | normal => exact hpost
          | exit id => exact absurd rfl (hex id)
          | ret => exact hpost

/-! ### What a caller is told -/
def FnT (P : Program) (f : FuncId) (sa : Sig) (sr : TSh) (F : sa.den → Option sr.den) : Prop :=
  ∀ x y, F x = some y → Callable P f ∧ ∀ (k : Nat) (β : Nat → Option Loc) (Z : Nat → Prop) (w : World) (cargs : List Value), ZOk Z w.heap →
      RL β (fun _ => .none) Z w.heap (argsV sa x) cargs →
      Calls P f cargs.toArray w fun e w' => ∃ us β' Z', e = .returned (retVal us) ∧ (∃ fn, P.funcs[f]? = some fn ∧ us.length = fn.results.size) ∧
        (∀ t, RV β' (TSh.putM sr k y) Z' w'.heap (TSh.putT sr k y t) (us.getD t undef)) ∧
        RMem β' (TSh.putM sr k y) Z' w'.heap ∧ Since w Z β' (TSh.putM sr k y) Z' w'

/-- results stand in the frame's first places -/
def resT (sr : TSh) (k : Nat) (y : sr.den) (n : Nat) : List V := (List.range n).map (TSh.putT sr k y)

def V.solid : V → Bool
  | .sl _ _ _ _ => false
  | .agg cs => cs.all fun c => match c with
    | .sl _ _ _ _ => false
    | _ => true
  | _ => true

/-- arguments are data (live slices are frozen); results are structured -/
def specT {R : Type} (sa : Sig) (sr : TSh) (F : sa.den → Option sr.den) : List V → Mem → Nat → (Eff → Option R) → Option R := fun args M id c =>
  match frzA M args with
  | (args, u) => bif args.all V.solid then (match argsG (M.upds u) sa args with
    | none => none
    | some (x, fps) => match fps with
      | [] => (match F x with
        | none => none
        | some y => forceN ((id + 1) * 100000) fun k => forceNs ((List.range sr.wid).map fun j => k + j) fun ids =>
          bif ids.all (fun b => (M b).isNone) && u.all (fun p => Nat.blt p.1 k) then
            c { val := retV (resT sr k y sr.length), upd := u ++ ids.map fun b => (b, TSh.putM sr k y b), fp := ids ++ u.map (·.1) } else none)
      | _ => none) else none
end
end Go.Pv
