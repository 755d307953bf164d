/-
  The ground of the proof, part 5: Functions that own their arguments' rows and maps: by themselves, and what a caller is told of them. What the texts of layer 22 need of this seat's: a function with one plain result told in the other form, the forms of all operations. The program's 'sorted': the keys of a map, in ascending order. What a caller is told of 'sorted'. Lists of numbers: In, With, Common, Words, Ints, words: as the code says it. The program's walk: spans, modes form by form, step, Of: as the code says it. The program's Of: as the code says it. Safe, Check, Same, live, the laws EffectTells and EffectLists: as the code says it. Lists of numbers as sets: insertion in order, what two lists have in common, keys of a map. In, With, Common, Words, Ints, words compute the plain functions. The effect of a segment, on plain data. The program's walk computes the plain effect: modes, step, Of. Safe, Check, Same, live: what they compute; the laws EffectTells and EffectLists return true. What Of tells of a segment holds of its execution: plain data. sameOuts, the laws EffectRuns and EffectRepeats: as the code says it. The laws EffectRuns and EffectRepeats return true.
-/
import Derived.Test.YtfbcchjmgjafbaaGreatDoorL4
import Derived.Maps.RangeWalk
import Derived.Maps.OwnSet
import Derived.Maps.AppendAt
import Derived.Sort.OwnSortedInts
import Derived.Shelf.Sort.Plain
import Derived.WalkKit
import Derived.OwnWalk
/-! ### Functions that own their arguments' rows and maps: by themselves, and what a caller is told of them. -/
namespace Go.Pv
@[reducible] def Sl.mp (t : Nat) (k : IntKind) (τ : Ty) : Sl := ⟨t, false, false, .mp k τ⟩
theorem SinceO.loose (w0 : World) (Z0 O : Nat → Prop) : Say.Loose (SinceO w0 Z0 O) := ⟨fun h ev => h.kept ev, fun h ho => h.sub ho⟩
def argsT (sa : TSh) (x : sa.den) : List V := (List.range sa.length).map (TSh.putT sa 0 x)
noncomputable section
/-- a function by itself, whose arguments are its own -/
def evalO (P : Program) (T : TypeId → TT) (callE : (R : Type) → CallE R) (lts : List LoopT) (sps : List Split) (f : FuncId) (sa sr : TSh) (x : sa.den) : Option sr.den :=
  match P.funcs[f]? with
  | none => none
  | some fn => match fn.body with
    | none => none
    | some code => bif Nat.ble (argsT sa x).length fn.ntmps then
        codeE T (callE _) fn.ntmps (hookT T callE 100000 lts sps fn.ntmps 5 _) 100000 code (paramsE (argsT sa x) 0) (TSh.putM sa 0 x) sa.wid fun ex ρ M _ => match ex with
          | .exit _ => none
          | _ => match resE T ρ M fn.results.toList with
            | none => none
            | some vs => TSh.grab (paramsE vs 0) M sr
      else none
end
def FnO (P : Program) (f : FuncId) (sa sr : TSh) (F : sa.den → Option sr.den) : Prop :=
  ∀ x y, F x = some y → Callable P f ∧ ∀ (k : Nat) (β : Nat → Option Loc) (Z : Nat → Prop) (w : World) (cargs : List Value),
    RMem β (TSh.putM sa 0 x) Z w.heap → RL β (TSh.putM sa 0 x) Z w.heap (argsT sa x) cargs →
    Calls P f cargs.toArray w fun e w' => ∃ us β' Z', e = .returned (retVal us) ∧ (∃ fn, P.funcs[f]? = some fn ∧ us.length = fn.results.size) ∧
      (∀ i, RV β' (TSh.putM sr k y) Z' w'.heap (TSh.putT sr k y i) (us.getD i undef)) ∧
      RMem β' (TSh.putM sr k y) Z' w'.heap ∧ SinceO w Z (owned β (TSh.putM sa 0 x)) β' (TSh.putM sr k y) Z' w'
section
variable {P : Program} {T : TypeId → TT}
theorem evalO_ok (hT : TOK P T) (hm : P.follows .mixedOrders = true) (hname : ∀ (f : FuncId) fn, P.funcs[f]? = some fn → (fn.name == "runtime.NumGoroutine") = false)
    {f : FuncId} {sa sr : TSh} {F : sa.den → Option sr.den}
    (hF : ∀ x y, F x = some y → ∃ (callE : (R : Type) → CallE R) (lts : List LoopT) (sps : List Split), (∀ R, CallsOK P (callE R)) ∧ evalO P T callE lts sps f sa sr x = some y) : FnO P f sa sr F := by
  intro x y h
  obtain ⟨callE, lts, sps, hcall, h⟩ := hF x y h
  unfold evalO at h
  cases hf : P.funcs[f]? with
  | none => rw [hf] at h; cases h
  | some fn =>
    rw [hf] at h
    simp only at h
    cases hb : fn.body with
    | none => rw [hb] at h; cases h
    | some code =>
      rw [hb] at h
      simp only at h
      cases hn : Nat.ble (argsT sa x).length fn.ntmps with
      | false => rw [hn] at h; cases h
      | true =>
        rw [hn] at h
        simp only [cond_true] at h
        have hn := Nat.le_of_ble_eq_true hn
        refine ⟨⟨fn, hf, by rw [hb]; rfl, hname f fn hf⟩, fun k β Z w cargs hmem hargs => ?_⟩
        obtain ⟨ex, ρ', M', nx', hk, hw⟩ := codeE_ok (𝒥 := Say.Loose) hT hm (hcall _) (fun J h => h.1) (hookT_ok (lts := lts) (sps := sps) hT hm hcall 5 _) 100000 code _ _ _ _ _ h
        have hex : ∀ id, ex ≠ .exit id := fun id e => by subst e; cases hk
        have hk' : (match resE T ρ' M' fn.results.toList with
            | none => none
            | some vs => TSh.grab (paramsE vs 0) M' sr) = some y := by
          cases ex with
          | normal => exact hk
          | exit id => exact absurd rfl (hex id)
          | ret => exact hk
        cases hres : resE T ρ' M' fn.results.toList with
        | none => rw [hres] at hk'; cases hk'
        | some vs =>
          rw [hres] at hk'
          simp only at hk'
          have hrel : Rel β (TSh.putM sa 0 x) Z fn.ntmps (paramsE (argsT sa x) 0) { tmps := cargs.toArray ++ Array.replicate (fn.ntmps - cargs.toArray.size) undef, defers := [] } w :=
            Rel.begin hmem (by simpa using hargs) hn
          have hs0 : SinceO w Z (owned β (TSh.putM sa 0 x)) β (TSh.putM sa 0 x) Z w := ⟨fun _ h => h, fun _ h => .inl h, Nat.le_refl _, fun _ _ _ => rfl, fun cb ho => .inr ho, Wd.refl _⟩
          refine calls_of_wp hf hb (hw (SinceO w Z (owned β (TSh.putM sa 0 x))) (SinceO.loose w Z _) β Z _ w _ hrel hs0 fun β' Z' a' w' hr' hj' hd => ?_)
          obtain ⟨us, hus, hrl⟩ := resE_ok hT _ _ hres hr'
          have hrun : (results fn a'.tmps).run P w' = .ok (retVal us) w' := by
            rw [results_eq, Sem.run_bind, Array.mapM_eq_mapM_toList, Sem.run_map, hus]
            rfl
          have hrel2 : Rel β' M' Z' us.length (paramsE vs 0) { tmps := us.toArray, defers := [] } w' := by
            have := Rel.begin (n := us.length) hr'.mem (vs := us.toArray) (by simpa using hrl) (by rw [hrl.1]; exact Nat.le_refl _)
            simpa using this
          obtain ⟨β2, Z2, M2, he, g1, g2⟩ := TSh.ok hrel2 hk' k
          have hlen : us.length = fn.results.size := by rw [← hrl.1, resE_length hres]; simp
          have hpost : a'.defers = [] ∧ ∃ v, (results fn a'.tmps).run P w' = .ok v w' ∧ ∃ us β' Z', (Ending.returned v) = .returned (retVal us) ∧ (∃ fn', some fn = some fn' ∧ us.length = fn'.results.size) ∧
              (∀ i, RV β' (TSh.putM sr k y) Z' w'.heap (TSh.putT sr k y i) (us.getD i undef)) ∧
              RMem β' (TSh.putM sr k y) Z' w'.heap ∧ SinceO w Z (owned β (TSh.putM sa 0 x)) β' (TSh.putM sr k y) Z' w' := by
            refine ⟨hd, _, hrun, us, β2, Z2, rfl, ⟨fn, rfl, hlen⟩, fun i => ?_, g1.mem, (hj'.kept he).sub g2⟩
            have := g1.tmps i
            simpa using this
          cases ex with
          | normal => exact hpost
          | exit id => exact absurd rfl (hex id)
          | ret => exact hpost
end
/-- the caller's blocks behind the call -/
def backO (k : Nat) (sr : TSh) (y : sr.den) : Mem := fun n => bif Nat.blt n k then .dead else TSh.putM sr k y n
def specO {R : Type} (sa sr : TSh) (F : sa.den → Option sr.den) : List V → Mem → Nat → (Eff → Option R) → Option R := fun args M id c =>
  bif Nat.beq args.length sa.length then (match TSh.grab0 (paramsE args 0) M sa with
    | none => none
    | some (x, obs) => bif nodupO obs then (match F x with
      | none => none
      | some y => forceN ((id + 1) * 100000) fun k => forceNs (somesN obs) fun old => forceNs ((List.range sr.wid).map fun j => k + j) fun ids =>
        bif ids.all (fun n => (M n).isNone) && old.all (fun n => Nat.blt n k) then
          c { val := retV (resT sr k y sr.length), upd := (old ++ ids).map fun n => (n, backO k sr y n), fp := old ++ ids } else none) else none) else none
theorem TSh.grab0_congr {ρ : Nat → V} {M M' : Mem} : ∀ (sh : TSh) {x : sh.den} {obs : List (Option Nat)}, TSh.grab0 ρ M sh = some (x, obs) → (∀ b, some b ∈ obs → M' b = M b) → TSh.grab0 ρ M' sh = some (x, obs)
  | [], x, obs, hg, _ => hg
  | s :: r, x, obs, hg, hM => by
    simp only [TSh.grab0] at hg ⊢
    cases hc : s.cells ρ with
    | none => rw [hc] at hg; cases hg
    | some cs =>
      rw [hc] at hg
      simp only at hg ⊢
      cases h1 : s.tr.grab M cs with
      | none => rw [h1] at hg; cases hg
      | some p =>
        obtain ⟨y, q, o1⟩ := p
        rw [h1] at hg
        cases q with
        | cons _ _ => cases hg
        | nil =>
          simp only at hg
          cases h2 : TSh.grab0 ρ M r with
          | none => rw [h2] at hg; cases hg
          | some p2 =>
            obtain ⟨z, o2⟩ := p2
            rw [h2] at hg
            simp only [Option.some.injEq, Prod.mk.injEq] at hg
            rw [s.tr.grab_congr h1 fun b hb => hM b (by rw [← hg.2]; simp [hb])]
            simp only
            rw [TSh.grab0_congr r h2 fun b hb => hM b (by rw [← hg.2]; simp [hb])]
            simp only [Option.some.injEq, Prod.mk.injEq]
            exact hg
section
variable {P : Program}
theorem specO_ok {R : Type} {f : FuncId} {sa sr : TSh} {F : sa.den → Option sr.den} (hfn : FnO P f sa sr F) (hcount : ∀ fn, P.funcs[f]? = some fn → fn.results.size = sr.length) :
    ∀ args M id (c : Eff → Option R) r, specO sa sr F args M id c = some r → ∃ eff, CallOK P f args M eff ∧ c eff = some r := by
  intro args M id c r hs
  unfold specO at hs
  cases hal : Nat.beq args.length sa.length with
  | false => rw [hal] at hs; cases hs
  | true =>
  rw [hal] at hs
  have hal := Nat.eq_of_beq_eq_true hal
  simp only [cond_true] at hs
  cases hgr : TSh.grab0 (paramsE args 0) M sa with
  | none => rw [hgr] at hs; cases hs
  | some pr =>
    obtain ⟨x, obs⟩ := pr
    rw [hgr] at hs
    simp only at hs
    cases hnd : nodupO obs with
    | false => rw [hnd] at hs; cases hs
    | true =>
      rw [hnd] at hs
      simp only [cond_true] at hs
      cases hF : F x with
      | none => rw [hF] at hs; cases hs
      | some y =>
        rw [hF] at hs
        simp only [forceN_eq, forceNs_eq] at hs
        generalize (id + 1) * 100000 = k at hs
        generalize hidsE : ((List.range sr.wid).map fun j => k + j) = ids at hs
        generalize hold : somesN obs = old at hs
        cases hi : ids.all (fun n => (M n).isNone) && old.all (fun n => Nat.blt n k) with
        | false => rw [hi] at hs; cases hs
        | true =>
          rw [hi] at hs
          simp only [cond_true] at hs
          simp only [Bool.and_eq_true] at hi
          obtain ⟨hi1, hi2⟩ := hi
          have hids : ∀ n, n ∈ ids ↔ k ≤ n ∧ n < k + sr.wid := fun n => by
            rw [← hidsE]
            simp only [List.mem_map, List.mem_range]
            constructor
            · rintro ⟨j, hj, rfl⟩; omega
            · rintro ⟨h1, h2⟩; exact ⟨n - k, by omega, by omega⟩
          have holdlt : ∀ n ∈ old, n < k := fun n hn => blt_iff.1 (List.all_eq_true.1 hi2 n hn)
          have hobs : ∀ n, n ∈ old ↔ some n ∈ obs := fun n => by rw [← hold, somesN_mem]
          obtain ⟨hcallable, hcalls⟩ := hfn x y hF
          refine ⟨_, ⟨fun n hn => ?_, hcallable, fun M2 hM β Z w cargs hmem hargs => ?_⟩, hs⟩
          · simpa using hn
          · simp only [List.mem_append] at hM
            have hgr2 : TSh.grab0 (paramsE args 0) M2 sa = some (x, obs) := TSh.grab0_congr sa hgr fun n hn => hM n (.inl ((hobs n).2 hn))
            have hcl0 := hargs.1
            have hrel : Rel β M2 Z cargs.length (paramsE args 0) { tmps := cargs.toArray, defers := [] } w := by
              have := Rel.begin (n := cargs.length) hmem (args := args) (vs := cargs.toArray) (by simpa using hargs) (by rw [hcl0]; exact Nat.le_refl _)
              simpa using this
            obtain ⟨β1, hr1, hl1, hlie1⟩ := TSh.okB hrel hgr2 hnd 0
            have hra1 : RL β1 (TSh.putM sa 0 x) Z w.heap (argsT sa x) cargs := by
              refine ⟨by simp [argsT]; omega, fun i u u' hu hu' => ?_⟩
              unfold argsT at hu
              rw [List.getElem?_map] at hu
              cases hr : (List.range sa.length)[i]? with
              | none => rw [hr] at hu; cases hu
              | some q =>
                rw [hr] at hu
                have hq : q = i := by
                  have := (List.getElem?_eq_some_iff.1 hr).2
                  simp at this; exact this.symm
                subst hq
                simp at hu
                subst hu
                have := hr1.tmps q
                simpa [hu'] using this
            have hO : ∀ cb, owned β1 (TSh.putM sa 0 x) cb → owned β (M2.only old) cb := fun cb ho => by
              obtain ⟨n, _, g2⟩ := ho
              obtain ⟨j, b', _, _, p1, p2, p3⟩ := hlie1 n cb g2
              have hin : b' ∈ old := (hobs b').2 (List.mem_of_getElem? p1)
              exact ⟨b', by rw [only_in hin]; exact p2, by unfold lies; rw [only_in hin]; exact p3⟩
            have hO2 : ∀ cb, owned β (M2.only old) cb → owned β M2 cb := fun cb ho => by
              obtain ⟨n, _, g1, g2⟩ := only_owned ho
              exact ⟨n, g1, g2⟩
            refine (hcalls k β1 Z w cargs hr1.mem hra1).mono fun e w' ⟨us, β', Z', h1, ⟨fn, h2, h3⟩, h4, h5, h7⟩ => ?_
            obtain ⟨s1, s2, s3, s4, s5, s6⟩ := h7
            have hdead : ∀ n ∈ old, backO k sr y n = .dead := fun n hn => by simp [backO, blt_iff.2 (holdlt n hn)]
            have hnew : ∀ n ∈ ids, backO k sr y n = TSh.putM sr k y n := fun n hn => by simp [backO, blt_false ((hids n).1 hn).1]
            let Mc : Mem := fun n => bif hasN n (old ++ ids) then backO k sr y n else .none
            have hMc : ∀ n ∈ old ++ ids, Mc n = backO k sr y n := fun n hn => by simp only [Mc]; rw [hasN_iff.2 hn]; rfl
            have hMo : ∀ n, n ∉ old ++ ids → Mc n = .none := fun n hn => by simp only [Mc]; rw [hasN_not.2 hn]; rfl
            have mo : ∀ {n}, n ∈ old → n ∈ old ++ ids := fun h => List.mem_append.2 (.inl h)
            have mi : ∀ {n}, n ∈ ids → n ∈ old ++ ids := fun h => List.mem_append.2 (.inr h)
            have hlies : ∀ n cb, lies β' Mc n cb → n ∈ ids ∧ lies β' (TSh.putM sr k y) n cb := fun n cb hl => by
              by_cases hin : n ∈ old ++ ids
              · rcases List.mem_append.1 hin with ho | hi
                · exfalso
                  have := hl.1
                  rw [hMc n hin, hdead n ho] at this
                  exact this rfl
                · refine ⟨hi, ?_⟩
                  unfold lies at hl ⊢
                  rw [hMc n hin, hnew n hi] at hl
                  exact hl
              · exfalso
                have := hl.1
                rw [hMo n hin] at this
                exact this rfl
            have hown : ∀ n cb, (Mc n).own = true → lies β' Mc n cb → owned β' (TSh.putM sr k y) cb := fun n cb ho hl => by
              obtain ⟨hi, h⟩ := hlies n cb hl
              exact ⟨n, by rw [hMc n (mi hi), hnew n hi] at ho; exact ho, h⟩
            have hkeep : ∀ r, (k ≤ r ∧ r < k + sr.wid) → Mc r = TSh.putM sr k y r ∧ β' r = β' r := fun r hr => by
              have hri := (hids r).2 hr
              exact ⟨by rw [hMc r (mi hri), hnew r hri], rfl⟩
            have rmc : RMem β' Mc Z' w'.heap := by
              refine ⟨fun n => ?_, fun n n' cb ho hl hl' => ?_, fun cb hz ⟨n, ho, hl⟩ => h5.zown cb hz (hown n cb ho hl), h5.zlt⟩
              · by_cases hin : n ∈ old ++ ids
                · rcases List.mem_append.1 hin with ho | hi
                  · unfold RB; rw [hMc n hin, hdead n ho]; trivial
                  · exact (h5.blk n).keepRefs (by rw [hMc n hin, hnew n hi]) rfl fun r hr => hkeep r (TSh.putM_refs sr k y n r hr)
                · unfold RB; rw [hMo n hin]; trivial
              · obtain ⟨i1, g1⟩ := hlies n cb hl
                obtain ⟨i2, g2⟩ := hlies n' cb hl'
                exact h5.sep n n' cb (by rw [hMc n (mi i1), hnew n i1] at ho; exact ho) g1 g2
            have evc : Ev β (M2.only old) Z w.heap β' Mc Z' w'.heap := by
              refine { zkeep := fun cb hz => ?_, zmono := s1, nn := fun n hn => ?_, gone := fun n hn hg => ?_, gens := fun n g hg g' hg' => ?_, size := s3, frame := fun cb hlt ho => s4 cb hlt fun hh => ho (hO cb hh), own := fun cb ho => ?_, znew := fun cb hz => ?_ }
              · exact s4 cb (hmem.zlt.lt cb hz) fun hh => hmem.zown cb hz (hO2 cb (hO cb hh))
              · have hin : n ∈ old := Decidable.byContradiction fun h => hn (only_out h)
                rw [hMc n (mo hin), hdead n hin]; simp
              · have hin : n ∈ old := Decidable.byContradiction fun h => hn (only_out h)
                rw [hMc n (mo hin), hdead n hin]; rfl
              · have hin : n ∈ old := Decidable.byContradiction fun h => by rw [only_out h] at hg; cases hg
                rw [hMc n (mo hin), hdead n hin] at hg'; cases hg'
              · obtain ⟨n, ho, hl⟩ := ho
                rcases s5 cb (hown n cb ho hl) with h | h
                · exact .inl h
                · exact .inr (hO cb h)
              · rcases s2 cb hz with h | h | h
                · exact .inl h
                · exact .inr (.inl h)
                · exact .inr (.inr (hO cb h))
            have hcl : ∀ n ∈ old ++ ids, ∀ r ∈ (Mc n).refs, r ∈ old ++ ids := fun n hn r hr => by
              rcases List.mem_append.1 hn with ho | hi
              · rw [hMc n hn, hdead n ho] at hr; cases hr
              · rw [hMc n hn, hnew n hi] at hr
                exact mi ((hids r).2 (TSh.putM_refs sr k y n r hr))
            obtain ⟨l1, l2, l3⟩ := leave hmem rmc evc (ids := old ++ ids) hcl (fun n hn => mo hn) (fun n hn => by
              rcases List.mem_append.1 hn with h | h
              · exact .inl h
              · right
                rw [hM n (.inr h)]
                exact isNone_iff (List.all_eq_true.1 hi1 n h))
            have hup : M2.upds ((old ++ ids).map fun n => (n, backO k sr y n)) = M2.join Mc (old ++ ids) := by
              rw [← upds_join]
              congr 1
              exact List.map_congr_left fun n hn => by rw [hMc n hn]
            refine ⟨_, joinB β β' (old ++ ids), Z', h1, ?_, ?_, ?_⟩ <;> rw [hup]
            · have hrl : RL (joinB β β' (old ++ ids)) (M2.join Mc (old ++ ids)) Z' w'.heap (resT sr k y sr.length) us := by
                refine ⟨by rw [h3, hcount fn h2]; simp [resT], fun i u u' hu hu' => ?_⟩
                have e : u = TSh.putT sr k y i := by
                  unfold resT at hu
                  rw [List.getElem?_map] at hu
                  cases hr : (List.range sr.length)[i]? with
                  | none => rw [hr] at hu; cases hu
                  | some q =>
                    rw [hr] at hu
                    have hq : q = i := by
                      have := (List.getElem?_eq_some_iff.1 hr).2
                      simp at this; exact this.symm
                    subst hq
                    simp at hu; exact hu.symm
                subst e
                have := h4 i
                have hg : us.getD i undef = u' := by simp [hu']
                rw [hg] at this
                have h8 : RV β' Mc Z' w'.heap (TSh.putT sr k y i) u' := this.keepRefs fun r hr => hkeep r (TSh.putT_refs sr k y i r hr)
                exact l3 _ _ h8 fun r hr => mi ((hids r).2 (TSh.putT_refs sr k y i r hr))
              exact retV_ok hrl
            · exact l1
            · exact ⟨l2, s6⟩
end
end Go.Pv
/-! ### What the texts of layer 22 need of this seat's: a function with one plain result told in the other form, the forms of all operations. -/
namespace Go.Pv
open Go.Proofs
set_option maxRecDepth 1000000
theorem FnOK.toT {P : Program} {f : FuncId} {sa : Sig} {τ : Ty} {F : sa.den → Option (Shape.den (resShape 0 [.val τ]))} (h : FnOK P f sa [.val τ] F) : FnT P f sa [Sl.val 0 τ] F := fun x y hF => by
  obtain ⟨h1, h2⟩ := h x y hF
  refine ⟨h1, fun k β Z w cargs hz hargs => (h2 k β Z w cargs hz hargs).mono fun e w' ⟨us, β', Z', h3, h4, h5, h6, h7⟩ => ?_⟩
  have eM : Shape.putM (resShape 0 [.val τ]) k y = TSh.putM [Sl.val 0 τ] k y := by
    funext b
    have e1 : Shape.putM (resShape 0 [.val τ]) k y b = .none := by
      show (Mem.upd (fun _ => .none) k Blk.none) b = .none
      unfold Mem.upd
      cases Nat.beq b k <;> rfl
    have e2 : TSh.putM [Sl.val 0 τ] k y b = .none := by
      show (bif Nat.blt b (k + 0) then Blk.none else Blk.none) = .none
      cases Nat.blt b (k + 0) <;> rfl
    rw [e1, e2]
  have eT : ∀ t, Shape.putT (resShape 0 [.val τ]) k y t = TSh.putT [Sl.val 0 τ] k y t := fun _ => rfl
  rw [eM] at h5 h6 h7
  exact ⟨us, β', Z', h3, h4, fun t => eT t ▸ h5 t, h6, h7⟩
def allForms : List Nv.Form := [(0, 0, 0, 1, false), (0, 0, 0, 2, false), (1, 0, 0, 0, false), (2, 0, 0, 0, false), (0, 0, 0, 0, true), (0, 1, 0, 1, false), (0, 2, 0, 2, false), (1, 1, 0, 1, false), (1, 0, 0, 1, false), (2, 2, 0, 2, false), (2, 0, 0, 2, false), (2, 2, 0, 1, false), (1, 2, 0, 2, false), (2, 0, 0, 1, false), (1, 1, 1, 2, false), (0, 0, 0, 0, false)]
theorem forms16 : each38 (fun k => decide (Nv.form k ∈ allForms)) = true := by decide +kernel
end Go.Pv
/-! ### The program's 'sorted': the keys of a map, in ascending order. -/
namespace Go.Proofs
open Go.Shelf
def SkE.lays189_ren : Go.Shelf.Ren := ⟨fun | 189 => 30 | 125 => 46 | 257 => 45 | 128 => 73 | 129 => 74 | 294 => 64 | 295 => 65 | 296 => 66 | 297 => 67 | 298 => 68 | 299 => 69 | 216 => 70 | 300 => 71 | 301 => 72 | 328 => 100 | 329 => 101 | 330 => 102 | 331 => 103 | 332 => 104 | 215 => 105 | 343 => 113 | n => n, fun | 28 => 23 | 3 => 3 | 46 => 51 | 0 => 0 | 51 => 131 | 53 => 133 | 4 => 4 | 183 => 123 | 182 => 122 | 131 => 128 | 5 => 5 | 9 => 9 | 218 => 152 | 222 => 156 | 228 => 163 | 229 => 77 | n => n, fun | n => n⟩
theorem SkE.lays189 : Go.Proofs.Lays.n189 Tryz.prog SkE.lays189_ren := {
  mixed := by kernel_rfl
  f125 := Tryz.func46.trans (congrArg some (by kernel_rfl))
  f128 := Tryz.func73.trans (congrArg some (by kernel_rfl))
  f129 := Tryz.func74.trans (congrArg some (by kernel_rfl))
  f189 := Tryz.func30.trans (congrArg some (by kernel_rfl))
  f215 := Tryz.func105.trans (congrArg some (by kernel_rfl))
  f216 := Tryz.func70.trans (congrArg some (by kernel_rfl))
  f257 := Tryz.func45.trans (congrArg some (by kernel_rfl))
  f294 := Tryz.func64.trans (congrArg some (by kernel_rfl))
  f295 := Tryz.func65.trans (congrArg some (by kernel_rfl))
  f296 := Tryz.func66.trans (congrArg some (by kernel_rfl))
  f297 := Tryz.func67.trans (congrArg some (by kernel_rfl))
  f298 := Tryz.func68.trans (congrArg some (by kernel_rfl))
  f299 := Tryz.func69.trans (congrArg some (by kernel_rfl))
  f300 := Tryz.func71.trans (congrArg some (by kernel_rfl))
  f301 := Tryz.func72.trans (congrArg some (by kernel_rfl))
  f328 := Tryz.func100.trans (congrArg some (by kernel_rfl))
  f329 := Tryz.func101.trans (congrArg some (by kernel_rfl))
  f330 := Tryz.func102.trans (congrArg some (by kernel_rfl))
  f331 := Tryz.func103.trans (congrArg some (by kernel_rfl))
  f332 := Tryz.func104.trans (congrArg some (by kernel_rfl))
  f343 := Tryz.func113.trans (congrArg some (by kernel_rfl))
  t0 := Tryz.underlying0
  a0 := Tryz.isAgg0
  z0 := Tryz.sizeOf0
  v0 := Tryz.zeroValue0
  t3 := Tryz.underlying3
  a3 := Tryz.isAgg3
  z3 := Tryz.sizeOf3
  v3 := Tryz.zeroValue3
  t4 := Tryz.underlying4
  a4 := Tryz.isAgg4
  z4 := Tryz.sizeOf4
  v4 := Tryz.zeroValue4
  t5 := Tryz.underlying5
  a5 := Tryz.isAgg5
  z5 := Tryz.sizeOf5
  v5 := Tryz.zeroValue5
  t9 := Tryz.underlying9
  a9 := Tryz.isAgg9
  z9 := Tryz.sizeOf9
  v9 := Tryz.zeroValue9
  t28 := Tryz.underlying23
  a28 := Tryz.isAgg23
  z28 := Tryz.sizeOf23
  v28 := Tryz.zeroValue23
  t46 := Tryz.underlying51
  a46 := Tryz.isAgg51
  z46 := Tryz.sizeOf51
  v46 := Tryz.zeroValue51
  t51 := Tryz.underlying131
  a51 := Tryz.isAgg131
  z51 := Tryz.sizeOf131
  v51 := Tryz.zeroValue131
  t53 := Tryz.underlying133
  a53 := Tryz.isAgg133
  z53 := Tryz.sizeOf133
  v53 := Tryz.zeroValue133
  t131 := Tryz.underlying128
  a131 := Tryz.isAgg128
  z131 := Tryz.sizeOf128
  v131 := Tryz.zeroValue128
  t182 := Tryz.underlying122
  a182 := Tryz.isAgg122
  z182 := Tryz.sizeOf122
  v182 := Tryz.zeroValue122
  t183 := Tryz.underlying123
  a183 := Tryz.isAgg123
  z183 := Tryz.sizeOf123
  v183 := Tryz.zeroValue123
  t218 := Tryz.underlying152
  a218 := Tryz.isAgg152
  z218 := Tryz.sizeOf152
  v218 := Tryz.zeroValue152
  t222 := Tryz.underlying156
  a222 := Tryz.isAgg156
  z222 := Tryz.sizeOf156
  v222 := Tryz.zeroValue156
  t228 := Tryz.underlying163
  a228 := Tryz.isAgg163
  z228 := Tryz.sizeOf163
  v228 := Tryz.zeroValue163
  t229 := Tryz.underlying77
  a229 := Tryz.isAgg77
  z229 := Tryz.sizeOf77
  v229 := Tryz.zeroValue77 }
end Go.Proofs
namespace Go.Pv.Ef
open Go.Proofs Go.RowKit Go.Maps Go.Sort
open Go.WideElems (Fit rd rg rg_of)
theorem law3 : Keyed Tryz.prog 3 := int_keyed Tryz.underlying3
theorem info3 : (Tryz.prog.info? 3).map (fun i => (i.zero, i.size, i.bytes)) = some (some (.int .i64 0), 1, 8) := by kernel_rfl
theorem sortInts (blk off cap : Nat) (zs : List Int) (w : World) (hH : Holds (Value.int .i64) w blk off zs.toArray) (hblk : blk < w.heap.size) (hsz : zs.length < 4611686018427387904) :
    Calls Tryz.prog 30 #[.slice (some ⟨blk, off, none⟩) zs.length cap] w fun e w' =>
      e = .returned (.tuple #[]) ∧ ∃ n os, w' = grow (putRow (Value.int .i64) (Sort.ahead w n) blk off (zs.mergeSort fun x y => decide (x ≤ y)).toArray) os :=
  Any.slices_Sort_int SkE.lays189 blk off cap zs w hH hblk hsz
/-! ### What was collected -/
section
variable {H : Type} {D0 : DataW H} {left : Lit → Bool} {ss : List Int}
def CollectedI (D0 : DataW H) (left : Lit → Bool) (ss : List Int) : Prop := ss.Nodup ∧ ∀ x, x ∈ ss ↔ (has D0 (.int .i64 x) = true ∧ left (.int .i64 x) = false)
theorem CollectedI.start (D0 : DataW H) : CollectedI D0 (has D0) [] := ⟨List.nodup_nil, fun x => by cases has D0 (.int .i64 x) <;> simp⟩
theorem CollectedI.step (h : CollectedI D0 left ss) {x : Int} {y : DataW H} (hlk : left (.int .i64 x) = true) (hat : ∀ zd, D0.atKey (.int .i64 x) zd = y) : CollectedI D0 (fun z => left z && !z.sameKey (.int .i64 x)) (ss ++ [x]) := by
  have hhas : has D0 (.int .i64 x) = true := has_true_of_atKey hat
  have hnew : x ∉ ss := fun hx => by have := ((h.2 x).1 hx).2; rw [hlk] at this; cases this
  refine ⟨List.nodup_append.2 ⟨h.1, by simp, fun a ha b hb => by simp at hb; subst hb; exact fun e => hnew (e ▸ ha)⟩, fun y => ?_⟩
  by_cases hy : y = x
  · subst hy; simp [hhas, Lit.sameKey]
  · simp [h.2 y, hy, Lit.sameKey]
end
/-! ### The walk -/
set_option maxRecDepth 100000 in
set_option maxHeartbeats 1000000 in
theorem sorted_any {H : Type} (b n : Nat) (D0 : DataW H) (w : World) (hown : w.ownsMap Tryz.prog 3 (plainElem Tryz.prog 4) b n D0) (hmax : Maps.size D0 ≤ 1000000000) :
    Calls Tryz.prog 16 #[.map (some b)] w fun e w' => ∃ (g cap : Nat) (ss : List Int), e = .returned (.slice (some ⟨g, 0, none⟩) ss.length cap) ∧ (ss.Nodup ∧ ∀ x, x ∈ ss ↔ has D0 (.int .i64 x) = true) ∧
      w'.ownsRow w.heap.size 3 1 (.slice (some ⟨g, 0, none⟩) ss.length cap) ss.length ((ss.mergeSort (fun x y => decide (x ≤ y))).map (Value.int .i64)) ∧ Below w.heap.size w w' := by
  obtain ⟨i0, hi, hz0, hz1, hz2⟩ := info_parts info3
  have hbl := hown.lt
  have hmx : (1000000000 : Nat) ≤ maxLen := by unfold maxLen; omega
  go_enter Tryz.func16, Tryz.ntmps16
  have hlen := hown.len Tryz.underlying54 3
  go_wp2_with (first
    | (at_make; refine wpList_make_own _ rfl _ _ 23 rfl w.heap.size 3 i0 (.int .i64 0) 1 Tryz.underlying23 hi hz0 hz1 _ _ _ (Maps.size D0) rfl rfl rfl (by rw [hz2]; omega) (by omega) (Nat.le_refl _) ?_; intro w1 hrow1 hg1)
    | (at_range; refine wpList_range_own _ rfl _ 54 rfl 3 4 law3 Tryz.underlying54 _ b n _ rfl (hown.kept hg1 (by simp)) ?_; intro w0 hrg0 hg0 hs0)
    | go_in)
  go_frame
  go_loopw [3] (fun v wr => ∃ (left : Lit → Bool) (cnt : Nat) (ss : List Int), wr.ranges Tryz.prog 3 (plainElem Tryz.prog 4) b w1.heap.size n D0 left cnt ∧ ss.length + cnt ≤ Maps.size D0 ∧
      wr.ownsRow w.heap.size 3 1 v ss.length (ss.map (Value.int .i64)) ∧ v ≠ .slice none 0 0 ∧ CollectedI D0 left ss ∧ Below w.heap.size w wr)
    (fun _ wr => wr.rangeLeft b w1.heap.size)
  case atStart =>
    exact ⟨_, _, [], hrg0, by simp, hrow1.kept hg0 (Or.inr (by simp [Value.ownBlock])), by simp, CollectedI.start D0,
      ((Below.refl _ _).grown hg1 (Nat.le_refl _) (fun j hj => by cases hj)).grown hg0 hg1.size (fun j hj => by cases hj)⟩
  case round =>
    obtain ⟨left, cnt, ss, hrg, hcs, hrow, hnn, hC, hnx⟩ := hrel
    have hm0 : wr.rangeLeft b w1.heap.size = cnt := hrg.left_eq
    go_wp2_with (first
      | (at_next; refine wpList_next_ranges _ rfl _ rfl 3 law3 (plainElem Tryz.prog 4) (Value.int .i64) (fun v : Value => v) (fun key kl hkey => by obtain ⟨x, rfl, _⟩ := Maps.keyOf_int_inv Tryz.underlying3 hkey; exact ⟨x, rfl⟩) (fun v y _ => ⟨v, rfl⟩) b w1.heap.size n _ _ _ rfl hrg ?_ ?_)
      | go_in)
    · -- nothing is left: the slice is sorted and handed back
      intro hc0 hl0
      rcases hrow.2 with ⟨hnil, _⟩ | ⟨g, cap, cur, rfl, hbase, hb, h1, h2, h3, h4⟩
      · exact absurd hnil hnn
      have hH : Holds (Value.int .i64) wr g 0 ss.toArray := holds_of_blockI hb (by simpa using h4)
      have hgl : g < wr.heap.size := (Array.getElem?_eq_some_iff.1 hb).1
      have hsort := sortInts g 0 cap ss wr hH hgl (by omega)
      have hl2 : (ss.mergeSort fun x y => decide (x ≤ y)).length = ss.length := List.length_mergeSort ss
      go_wp2_with (go_at_call 30; refine hsort.mono ?_; rintro e w' ⟨rfl, nn, os, rfl⟩)
      go_ret
      refine ⟨g, cap, ss, rfl, ⟨hC.1, fun x => by rw [hC.2 x, hl0]; simp⟩, ?_, hnx.grown (grownBy_sortedI _) hnx.size (fun j hj => by cases hj; exact hbase)⟩
      exact ownsRow_sortedI (ts := ss.mergeSort fun x y => decide (x ≤ y)) hl2 hbase hb h1 h2 h3
    · -- an entry has come: its key goes to the slice's end
      intro x c kl yd yp w2 cnt2 hkey hlk hv hat hrg2 hlt hg2 hs2 hen
      obtain ⟨x', ex, rfl, _⟩ := Maps.keyOf_int_inv Tryz.underlying3 hkey
      obtain rfl : x = x' := by cases ex; rfl
      have hrow2 := hrow.kept hg2 (Or.inr (row_ne_iter hrow hrg).symm)
      clear hs2
      go_wp2_with (first
        | (at_builtin; refine wpList_append_own _ rfl _ _ 23 rfl w.heap.size 3 i0 (.int .i64 0) 1 8 Tryz.underlying23 hi hz0 hz1 hz2 rfl (by decide) _ _ _ rfl (hrow2.alloc _) ⟨w2.heap.size, 0, none⟩ 1 1 [.int .i64 x] rfl rfl (cell_one_new _ _ _) (by intro u hu; simp at hu; subst hu; rfl) (by omega) (by omega) (by have := hnx.size; have := hg2.size; simp; omega) ?_; intro v' w3 hown' hg3 hnil3; go_frame)
        | go_in)
      have hrg3 := (hrg2.alloc _).kept hg3 (row_ne_low hrow2 hbl) (row_ne_iter hrow2 hrg2)
      go_roundw
      case rel =>
        refine ⟨_, cnt2, ss ++ [x], hrg3, by simp; omega, by simpa using hown', fun hv' => by have := (hnil3.1 hv').2; omega, hC.step hlk hat, ?_⟩
        exact ((hnx.grown hg2 hnx.size (fun j hj => by cases hj; exact hg1.size)).alloc (by have := hnx.size; have := hg2.size; omega) _).grown hg3 (by have := hnx.size; have := hg2.size; simp; omega) (fun j hj => (hrow2.lt j hj).1)
      case measure => rw [hrg3.left_eq, hm0]; exact hlt
end Go.Pv.Ef
/-! ### What a caller is told of 'sorted'. -/
namespace Go.Pv.Ef
open Go.Proofs Go.RowKit Go.Maps Go.Sort
open Go.WideElems (Fit rg rg_of rd_mk)
def srt (l : List Int) : List Int := l.mergeSort fun x y => decide (x ≤ y)
theorem srt_perm_eq {l l' : List Int} (h : l.Perm l') : srt l = srt l' := by
  have tr : ∀ a b c : Int, decide (a ≤ b) = true → decide (b ≤ c) = true → decide (a ≤ c) = true := fun a b c h1 h2 => by simp only [decide_eq_true_eq] at *; omega
  have to : ∀ a b : Int, (decide (a ≤ b) || decide (b ≤ a)) = true := fun a b => by simp only [Bool.or_eq_true, decide_eq_true_eq]; omega
  refine List.Perm.eq_of_pairwise (le := fun a b => decide (a ≤ b) = true) (fun a b _ _ h1 h2 => ?_) (List.pairwise_mergeSort tr to l) (List.pairwise_mergeSort tr to l') (((List.mergeSort_perm l _).trans h).trans (List.mergeSort_perm l' _).symm)
  simp only [decide_eq_true_eq] at h1 h2
  omega
def specSort {R : Type} (sf : List Int → List Int) : List V → Mem → Nat → (Eff → Option R) → Option R := fun args M id c =>
  match args with
  | [] => none
  | a :: r => match r with
    | _ :: _ => none
    | [] => match a with
      | .mp b => match M b with
        | .mp q τ l => bif decide (q = .i64) && decide (τ = .bool) && decide (l.length ≤ 1000000000) then forceN ((id + 1) * 100000) fun k =>
            bif (M k).isNone then c { val := .sl k 0 none 0, upd := [(k, .row tI (sf (l.map (·.1))) 0 false)], fp := [k, b] } else none else none
        | _ => none
      | _ => none
theorem has_keys {es : Array MapEntry} {clock : Nat} {l : List (Int × Bool)} {h : Heap} {Z : Nat → Prop} (d : MapData h Z .i64 .bool l es clock) :
    Fit (H := Unit) Tryz.prog 3 (plainElem Tryz.prog 4) es clock ∨ ¬ es.size ≤ maxLen := by
  by_cases hs : es.size ≤ maxLen
  · refine .inl ⟨hs, d.1, fun x hx => ?_⟩
    obtain ⟨i, hi⟩ := List.getElem?_of_mem hx
    have hi' : es[i]? = some x := by simpa using hi
    have hlt : i < l.length := by rw [← d.2.1]; exact (Array.getElem?_eq_some_iff.1 hi').1
    obtain ⟨d1, d2⟩ := d.2.2.2 i x l[i] hi' (List.getElem?_eq_getElem hlt)
    have hw := d.2.2.1 l[i] (List.getElem_mem hlt)
    have hv : x.val = .bool l[i].2 := by simp only [RD] at d2; simpa using d2
    refine ⟨_, rd_mk (born := x.born) (kl := .int .i64 l[i].1) (yv := (.lit (.bool l[i].2), [])) ?_ ?_⟩
    · rw [d1]; exact keyOf_int_mk Tryz.underlying3 hw
    · rw [hv]; exact plainElem_bool Tryz.underlying4 _
  · exact .inr hs
theorem specSort_ok {R : Type} : ∀ args M id (c : Eff → Option R) r, specSort srt args M id c = some r → ∃ eff, CallOK Tryz.prog 16 args M eff ∧ c eff = some r := by
  intro args M id c r h
  unfold specSort at h
  split at h
  · cases h
  · rename_i a rs
    split at h
    · cases h
    · split at h
      · rename_i b
        split at h
        · rename_i q τ l hb
          cases hq : decide (q = .i64) && decide (τ = .bool) && decide (l.length ≤ 1000000000) with
          | false => rw [hq] at h; cases h
          | true =>
            rw [hq] at h
            simp only [Bool.and_eq_true, decide_eq_true_eq] at hq
            obtain ⟨⟨rfl, rfl⟩, hl⟩ := hq
            simp only [cond_true, forceN_eq] at h
            generalize (id + 1) * 100000 = k at h
            cases hk : (M k).isNone with
            | false => rw [hk] at h; cases h
            | true =>
              rw [hk] at h
              simp only [cond_true] at h
              refine ⟨_, ⟨fun n hn => by simp at hn; simp [hn], ⟨Tryz.f16, Tryz.func16, rfl, names 16 _ Tryz.func16⟩, fun M2 hM β Z w cargs hmem hargs => ?_⟩, h⟩
              have hk2 : M2 k = .none := by rw [hM k (by simp)]; exact isNone_iff hk
              have hb2 : M2 b = .mp .i64 .bool l := by rw [hM b (by simp)]; exact hb
              obtain ⟨v, cs, rfl, hv, hcs⟩ := hargs.cons_inv
              have hcs0 : cs = [] := by have := hcs.1; simpa using this.symm
              subst hcs0
              obtain ⟨cb, es, clock, rfl, eb, e2, e3⟩ := hv.mp_inv hmem hb2
              have hsz : es.size ≤ maxLen := by rw [e3.2.1]; unfold maxLen; omega
              have F := (has_keys e3).resolve_right (fun hn => hn hsz)
              let D0 : DataW Unit := .map ((es.toList.map (rg Tryz.prog 3 (plainElem Tryz.prog 4))).foldr DataW.insert [])
              have hown : w.ownsMap Tryz.prog 3 (plainElem Tryz.prog 4) cb es.size D0 := ⟨es, clock, e2, F, Nat.le_refl _, rfl⟩
              have hD : Maps.size D0 ≤ 1000000000 := by
                show (((es.toList.map (rg Tryz.prog 3 (plainElem Tryz.prog 4))).foldr DataW.insert []).length) ≤ _
                rw [length_sorted]
                simp only [List.length_map, Array.length_toList, e3.2.1]; exact hl
              -- the entries' keys
              have at_ : ∀ i (x : MapEntry), es[i]? = some x → ∃ p : Int × Bool, l[i]? = some p ∧ (rg (H := Unit) Tryz.prog 3 (plainElem Tryz.prog 4) x).1 = .int .i64 p.1 := fun i x hi => by
                have hlt : i < l.length := by rw [← e3.2.1]; exact (Array.getElem?_eq_some_iff.1 hi).1
                obtain ⟨d1, d2⟩ := e3.2.2.2 i x l[i] hi (List.getElem?_eq_getElem hlt)
                have hw := e3.2.2.1 l[i] (List.getElem_mem hlt)
                have hvv : x.val = .bool l[i].2 := by simp only [RD] at d2; simpa using d2
                refine ⟨l[i], List.getElem?_eq_getElem hlt, ?_⟩
                have : Go.WideElems.rd (H := Unit) Tryz.prog 3 (plainElem Tryz.prog 4) x = some (.int .i64 l[i].1, .lit (.bool l[i].2)) := by
                  obtain ⟨kk, vv, bb⟩ := x
                  simp only at d1 hvv
                  subst d1 hvv
                  exact rd_mk (keyOf_int_mk Tryz.underlying3 hw) (plainElem_bool Tryz.underlying4 _)
                rw [rg_of this]
              have hkeys : ∀ x : Int, has D0 (.int .i64 x) = true ↔ x ∈ l.map (·.1) := fun x => by
                show has (.map ((es.toList.map (rg Tryz.prog 3 (plainElem Tryz.prog 4))).foldr DataW.insert [])) (.int .i64 x) = true ↔ _
                rw [has_eq, List.any_eq_true]
                constructor
                · rintro ⟨p, hp, hs⟩
                  obtain ⟨e, he, rfl⟩ := List.mem_map.1 (mem_sorted.1 hp)
                  obtain ⟨i, hi⟩ := List.getElem?_of_mem he
                  obtain ⟨p, hp, hpe⟩ := at_ i e (by simpa using hi)
                  rw [hpe] at hs
                  have hx : x = p.1 := by
                    have := WideAt.sameKey_eq hs
                    cases this; rfl
                  rw [hx]
                  exact List.mem_map.2 ⟨p, List.mem_of_getElem? hp, rfl⟩
                · intro hx
                  obtain ⟨p, hp, rfl⟩ := List.mem_map.1 hx
                  obtain ⟨i, hi⟩ := List.getElem?_of_mem hp
                  have hlt : i < es.size := by rw [e3.2.1]; exact (List.getElem?_eq_some_iff.1 hi).1
                  obtain ⟨p', hp', hpe⟩ := at_ i es[i] (Array.getElem?_eq_getElem hlt)
                  rw [hi] at hp'
                  cases hp'
                  refine ⟨_, mem_sorted.2 (List.mem_map.2 ⟨es[i], Array.mem_toList_iff.2 (Array.getElem_mem hlt), rfl⟩), ?_⟩
                  rw [hpe]
                  simp [Lit.sameKey]
              have hnd : (l.map (·.1)).Nodup := by
                have := e3.1.2.2
                rw [List.Nodup, List.pairwise_iff_getElem] at this ⊢
                intro i j hi hj hij e
                simp only [List.length_map] at hi hj
                have hi2 : i < es.size := by rw [e3.2.1]; exact hi
                have hj2 : j < es.size := by rw [e3.2.1]; exact hj
                refine this i j (by simpa using hi2) (by simpa using hj2) hij ?_
                have g1 := (e3.2.2.2 i es[i] l[i] (Array.getElem?_eq_getElem (by rw [e3.2.1]; exact hi)) (List.getElem?_eq_getElem hi)).1
                have g2 := (e3.2.2.2 j es[j] l[j] (Array.getElem?_eq_getElem (by rw [e3.2.1]; exact hj)) (List.getElem?_eq_getElem hj)).1
                simp only [List.getElem_map, Array.getElem_toList] at e ⊢
                rw [g1, g2, e]
              refine (sorted_any cb es.size D0 w hown hD).mono ?_
              rintro e w' ⟨g, cap, ss, rfl, ⟨hss, hmem2⟩, hrow, hbel⟩
              have hperm : ss.Perm (l.map (·.1)) := (List.perm_ext_iff_of_nodup hss hnd).2 fun x => by rw [hmem2 x, hkeys x]
              have hsrt : (ss.mergeSort fun x y => decide (x ≤ y)) = srt (l.map (·.1)) := srt_perm_eq hperm
              have hlen : (srt (l.map (·.1))).length = ss.length := by rw [← hsrt]; exact List.length_mergeSort ss
              rw [hsrt] at hrow
              rcases hrow.2 with ⟨h0, _⟩ | ⟨g', cap', cur, hv', hbase, hbk, h1, h2, h3, h4⟩
              · cases h0
              cases hv'
              rw [Nat.mul_one] at h3 h4
              have hh : ∀ x, x < w.heap.size → w'.heap[x]? = w.heap[x]? := hbel.block
              have hlo : ∀ x base sz top, Loc.at g 0 1 cur.size = .at x base sz top → w.heap.size ≤ x := fun x base sz top e => by cases e; exact hbase
              have hget : ∀ i x, (srt (l.map (·.1)))[i]? = some x → RD w'.heap Z tI x ((cur.toList.drop (0 + i * (tI : Ty).size)).take (tI : Ty).size) := fun i x hx => by
                have hi : i < ss.length := by rw [← hlen]; exact (List.getElem?_eq_some_iff.1 hx).1
                have e4 : cur.toList[i]? = some (.int .i64 x) := by
                  have : (cur.toList.take ss.length)[i]? = ((srt (l.map (·.1))).map (Value.int .i64))[i]? := by rw [h4]
                  rw [List.getElem?_take_of_lt hi] at this
                  rw [this]; simp [hx]
                show (cur.toList.drop (0 + i * 1)).take 1 = [.int .i64 x]
                rw [Nat.zero_add, Nat.mul_one]
                have hlt := (List.getElem?_eq_some_iff.1 e4).1
                rw [List.drop_eq_getElem_cons hlt]
                simp only [List.take_succ_cons, List.take_zero, List.cons.injEq, and_true]
                exact (List.getElem?_eq_some_iff.1 e4).2
              have ev := new_ev hmem hk2 (.row tI (srt (l.map (·.1))) 0 false) (.at g 0 1 cur.size) hlo hbel.size hh
              have hbnd : 0 + (srt (l.map (·.1))).length * (tI : Ty).size ≤ cur.size := by
                show 0 + _ * 1 ≤ _
                rw [hlen, h3]; omega
              refine ⟨_, updβ β k (.at g 0 1 cur.size), Z, rfl, ?_, ?_, ⟨ev, hbel.os, hbel.output⟩⟩
              · refine .sl k 0 none 0 _ rfl (by simp only [Mem.upds]; rw [upd_same]; simp) fun g0 hg0 => ?_
                simp only [Mem.upds] at hg0 ⊢
                rw [upd_same] at hg0 ⊢
                simp only [Blk.gen, Option.some.injEq] at hg0
                subst hg0
                exact ⟨Nat.le_refl _, fun _ => .inr ⟨g, 0, 1, cur.size, 0, ss.length, cap, updβ_same _ _ _, rfl, by simp, by omega, h1, by omega, by simp [Blk.cnt, hlen]⟩⟩
              · refine new_mem hmem hk2 (.row tI (srt (l.map (·.1))) 0 false) _ hlo hbel.size hh ?_
                unfold RB
                simp only [Mem.upds, upd_same]
                exact .inr ⟨g, 0, 3, cur, (0, 0), updβ_same _ _ _, hbk, fun _ => rfl, hbnd, hget, fun h => by cases h⟩
        · cases h
      · cases h
end Go.Pv.Ef
/-! ### Lists of numbers: In, With, Common, Words, Ints, words: as the code says it. -/
namespace Go.Pv.Ef
open Go.Proofs
set_option maxRecDepth 1000000
@[reducible] def tIs : Ty := .slice tI
@[reducible] def tWs : Ty := .slice tW
def app {α β : Type} (l : List α) (k : List α → Option β) : Option β := bif decide (l.length ≤ maxRow) then k l else none
@[reducible] def sLN : Sig := [.val tIs, .val tI]
@[reducible] def sLL : Sig := [.val tIs, .val tIs]
@[reducible] def rL : TSh := [Sl.row 0 tI]
/-! ### In -/
def loop25 : LoopSpec := ⟨0, [(0, .val tIs), (1, .val tI), (5, .val tI)], [], [(4, .val .bool)]⟩
noncomputable def S25 : List Int × Int × Int × Unit → Option ((List Int × Int × Int × Unit) ⊕ (Unit ⊕ (Bool × Unit))) := stepE tt call0 Tryz.f9.ntmps (loopHook tt call0 Tryz.f9.ntmps 100000 [loop25] 4) 100000 loop25 ((loopBody 0 ((Tryz.f9.body).getD .skip)).getD .skip)
theorem S25_eq (l : List Int) (n i : Int) : S25 (l, n, i, ()) = bif decide (i < (l.length : Int)) then bif inRange i l.length then bif l.getD i.toNat 0 == n then some (.inr (.inr (true, ()))) else some (.inl (l, n, w64 (i + 1), ())) else none
    else some (.inr (.inl ())) := by kernel_rfl
theorem e25_eq (l : List Int) (n : Int) : evalF Tryz.prog tt call0 [loop25] 9 sLN [.val .bool] (l, n, ()) = match lim S25 (l, n, 0, ()) with
    | none => none
    | some (.inl _) => some (false, ())
    | some (.inr y) => some (y.1, ()) := by kernel_rfl
/-! ### With -/
structure GLs where
  inn : List Int → Int → Bool
  dInn : List Int → Bool
  wth : List Int → Int → List Int
  dWth : List Int → Bool
def specsI (g : GLs) (R : Type) (f : FuncId) : Option (List V → Mem → Nat → (Eff → Option R) → Option R) :=
  match f with
  | 9 => some (specD sLN [.val .bool] (fun x => g.dInn x.1) fun x => (g.inn x.1 x.2.1, ()))
  | 40 => some (specO [Sl.row 0 tI, Sl.val 1 tI] rL fun x => bif g.dWth x.1 then some (g.wth x.1 x.2.1, ()) else none)
  | 16 => some (specSort srt)
  | _ => none
noncomputable def callI (on : List Nat) (g : GLs) (R : Type) : CallE R := callsE Tryz.prog tt (fun f => bif hasN f on then specsI g R f else none) 20
def with0 : LoopT := ⟨0, [Sl.row 0 tI, Sl.val 1 tI, Sl.row 5 tI, Sl.val 6 tI], [Sl.row 0 tI, Sl.val 1 tI, Sl.row 5 tI, Sl.val 6 tI], []⟩
abbrev X26 := List Int × Int × List Int × Int × Unit
noncomputable def S26 (g : GLs) : X26 → Option (X26 ⊕ (X26 ⊕ Unit)) := stepT tt (callI [9] g) Tryz.f40.ntmps (hookT tt (callI [9] g) 100000 [with0] [] Tryz.f40.ntmps 4) 100000 with0 ((loopBody 0 ((Tryz.f40.body).getD .skip)).getD .skip)
theorem S26_eq (g : GLs) (l : List Int) (n : Int) (o : List Int) (i : Int) : S26 g (l, n, o, i, ()) =
    bif decide (i < (l.length : Int)) then bif inRange i l.length then bif decide (l.getD i.toNat 0 < n) then some (.inl (l, n, o, w64 (i + 1), ())) else some (.inr (.inl (l, n, o, i, ()))) else none
    else some (.inr (.inl (l, n, o, i, ()))) := by kernel_rfl
theorem e26_eq (g : GLs) (l : List Int) (n : Int) : evalO Tryz.prog tt (callI [9] g) [with0] [] 40 [Sl.row 0 tI, Sl.val 1 tI] rL (l, n, ()) =
    bif g.dInn l then bif g.inn l n then some (l, ()) else
      match lim (S26 g) (l, n, [], 0, ()) with
      | none => none
      | some (.inl y) => bif decide (0 ≤ y.2.2.2.1) && decide (y.2.2.2.1 ≤ (y.1.length : Int)) then app (y.2.2.1 ++ (y.1.drop 0).take y.2.2.2.1.toNat) fun A => app (A ++ [y.2.1]) fun B =>
          bif decide (0 ≤ y.2.2.2.1) && decide (y.2.2.2.1 ≤ (y.1.length : Int)) then app (B ++ y.1.drop (y.2.2.2.1.toNat + 0)) fun C => some (C, ()) else none else none
      | some (.inr _) => none
    else none := by kernel_rfl
/-! ### The reference's Common -/
def com0 : LoopT := ⟨0, [Sl.val 0 tIs, Sl.val 1 tIs, Sl.row 5 tI, Sl.val 6 tI], [Sl.row 5 tI], []⟩
abbrev X17 := List Int × List Int × List Int × Int × Unit
noncomputable def S17 (g : GLs) : X17 → Option (X17 ⊕ ((List Int × Unit) ⊕ Unit)) := stepT tt (callI [9, 40] g) Tryz.f21.ntmps (hookT tt (callI [9, 40] g) 100000 [com0] [] Tryz.f21.ntmps 4) 100000 com0 ((loopBody 0 ((Tryz.f21.body).getD .skip)).getD .skip)
theorem S17_eq (g : GLs) (a b o : List Int) (i : Int) : S17 g (a, b, o, i, ()) =
    bif decide (i < (a.length : Int)) then bif inRange i a.length then bif g.dInn b then bif g.inn b (a.getD i.toNat 0) then bif inRange i a.length then
      (match (bif g.dWth o then some (g.wth o (a.getD i.toNat 0), ()) else none : Option (List Int × Unit)) with
        | none => none
        | some y => some (.inl (a, b, y.1, w64 (i + 1), ()))) else none
      else some (.inl (a, b, o, w64 (i + 1), ())) else none else none
    else some (.inr (.inl (o, ()))) := by kernel_rfl
theorem e17l_eq (g : GLs) (a b : List Int) : evalT Tryz.prog tt (callI [9, 40] g) [com0] [] 21 sLL rL (a, b, ()) =
      match lim (S17 g) (a, b, [], 0, ()) with
      | none => none
      | some (.inl y) => some (y.1, ())
      | some (.inr _) => none := by kernel_rfl
/-! ### The program's Common -/
def pom0 : LoopT := ⟨0, [Sl.val 1 tIs, Sl.mp 5 .i64 .bool, Sl.mp 6 .i64 .bool, Sl.val 13 tIs, Sl.val 14 tI, Sl.val 15 tI], [Sl.val 1 tIs, Sl.mp 5 .i64 .bool, Sl.mp 6 .i64 .bool], []⟩
def pom2 : LoopT := ⟨2, [Sl.mp 5 .i64 .bool, Sl.mp 6 .i64 .bool, Sl.val 22 tIs, Sl.val 23 tI, Sl.val 24 tI], [Sl.mp 6 .i64 .bool], []⟩
abbrev Mp := List (Int × Bool)
abbrev X160 := List Int × Mp × Mp × List Int × Int × Int × Unit
abbrev X162 := Mp × Mp × List Int × Int × Int × Unit
noncomputable def S160 (g : GLs) : X160 → Option (X160 ⊕ ((List Int × Mp × Mp × Unit) ⊕ Unit)) := stepT tt (callI [16] g) Tryz.f39.ntmps (hookT tt (callI [16] g) 100000 [pom0, pom2] [] Tryz.f39.ntmps 4) 100000 pom0 ((loopBody 0 ((Tryz.f39.body).getD .skip)).getD .skip)
noncomputable def S162 (g : GLs) : X162 → Option (X162 ⊕ ((Mp × Unit) ⊕ Unit)) := stepT tt (callI [16] g) Tryz.f39.ntmps (hookT tt (callI [16] g) 100000 [pom0, pom2] [] Tryz.f39.ntmps 4) 100000 pom2 ((loopBody 2 ((Tryz.f39.body).getD .skip)).getD .skip)
def wfI (n : Int) : Bool := (Lit.int .i64 n).wf
theorem S160_eq (g : GLs) (b : List Int) (m1 m2 : Mp) (a : List Int) (n i : Int) : S160 g (b, m1, m2, a, n, i, ()) =
    bif decide (i < n) then bif inRange i a.length then bif wfI (a.getD i.toNat 0) then some (.inl (b, putL (a.getD i.toNat 0) true m1, m2, a, n, w64 (i + 1), ())) else none else none
    else some (.inr (.inl (b, m1, m2, ()))) := by kernel_rfl
theorem S162_eq (g : GLs) (m1 m2 : Mp) (b : List Int) (n i : Int) : S162 g (m1, m2, b, n, i, ()) =
    bif decide (i < n) then bif inRange i b.length then bif getL (b.getD i.toNat 0) false m1 then bif wfI (b.getD i.toNat 0) then some (.inl (m1, putL (b.getD i.toNat 0) true m2, b, n, w64 (i + 1), ())) else none
      else some (.inl (m1, m2, b, n, w64 (i + 1), ())) else none
    else some (.inr (.inl (m2, ()))) := by kernel_rfl
theorem e16l_eq (g : GLs) (a b : List Int) : evalT Tryz.prog tt (callI [16] g) [pom0, pom2] [] 39 sLL rL (a, b, ()) =
      match lim (S160 g) (b, [], [], a, (a.length : Int), 0, ()) with
      | none => none
      | some (.inl y) => (match lim (S162 g) (y.2.1, y.2.2.1, y.1, (y.1.length : Int), 0, ()) with
        | none => none
        | some (.inl z) => bif decide (z.1.length ≤ 1000000000) then some (srt (z.1.map (·.1)), ()) else none
        | some (.inr _) => none)
      | some (.inr _) => none := by kernel_rfl
/-! ### Words -/
/-! ### Ints, words -/
def loop15 : LoopSpec := ⟨0, [(0, .val tIs), (1, .val tIs), (5, .val tI)], [], [(4, .val .bool)]⟩
noncomputable def S15 : List Int × List Int × Int × Unit → Option ((List Int × List Int × Int × Unit) ⊕ (Unit ⊕ (Bool × Unit))) := stepE tt call0 Tryz.f31.ntmps (loopHook tt call0 Tryz.f31.ntmps 100000 [loop15] 4) 100000 loop15 ((loopBody 0 ((Tryz.f31.body).getD .skip)).getD .skip)
theorem S15_eq (p q : List Int) (i : Int) : S15 (p, q, i, ()) = bif decide (i < (p.length : Int)) then bif inRange i p.length then bif inRange i q.length then
    bif p.getD i.toNat 0 != q.getD i.toNat 0 then some (.inr (.inr (false, ()))) else some (.inl (p, q, w64 (i + 1), ()))
    else none else none else some (.inr (.inl ())) := by kernel_rfl
theorem e15l_eq (p q : List Int) : evalF Tryz.prog tt call0 [loop15] 31 sLL [.val .bool] (p, q, ()) = bif (p.length : Int) != (q.length : Int) then some (false, ()) else
    match lim S15 (p, q, 0, ()) with
    | none => none
    | some (.inl _) => some (true, ())
    | some (.inr y) => some (y.1, ()) := by kernel_rfl
end Go.Pv.Ef
/-! ### The program's walk: spans, modes form by form, step, Of: as the code says it. -/
namespace Go.Pv.Ef
open Go.Proofs
set_option maxRecDepth 1000000
@[reducible] def tU8 : Ty := .int .u8
@[reducible] def trWalk : Tr := .pair (.dat tU8) (.pair (.row tU8) (.pair (.dat tI) (.pair (.mp .i64 .bool) (.pair (.mp .i64 .bool) (.pair (.row tI) (.pair (.row tI) (.pair (.dat tI) (.pair (.dat tI) (.row tI)))))))))
@[reducible] def trEff : Tr := .pair (.row tI) (.pair (.row tI) (.pair (.dat tI) (.pair (.dat tI) (.row tI))))
/-- mode, list, doubles, reads, writes; Reads, Writes, Steps, Outs, Next -/
abbrev WSt := Int × List Int × Int × Mp × Mp × List Int × List Int × Int × Int × List Int
abbrev Eff5 := List Int × List Int × Int × Int × List Int
@[reducible] def sIns : Sig := [.agg tInstr]
@[reducible] def rE : TSh := [Sl.val 1 tI]
def onlyQ {α : Type} (b : Bool) (k : Option α) : Option α := bif b then k else none
/-! ### spans -/
def spanQ {α : Type} (op : Int) (k : Int → Int → α) : α := bif op == 1 then k 2 0 else bif op == 2 then k 6 0 else bif op == 31 then k 18 0 else bif op == 32 then k 18 0 else bif op == 3 then k 0 2 else bif op == 4 then k 0 6 else k 0 0
theorem e33_eq (k : Int) : evalF Tryz.prog tt call0 [] 28 sOp [.val tI, .val tI] (k, ()) = spanQ k fun a b => some (a, b, ()) := by kernel_rfl
/-! ### modes -/
abbrev OW := Option (WSt × Int × Unit)
def retW (x : WSt) (e : Int) : OW := some (x, e, ())
def szQ {α : Type} (m : Int) (k : Int → α) : α := bif m == 2 then k 3 else k 1
def specsM (f : Nv.Form) (R : Type) (fn : FuncId) : Option (List V → Mem → Nat → (Eff → Option R) → Option R) :=
  match fn with
  | 33 => some (specD sOp [.agg tForm] (fun x => kn x.1 && decide (Nv.form x.1 = f)) fun _ => (f, ()))
  | _ => none
noncomputable def callM (f : Nv.Form) (R : Type) : CallE R := callsE Tryz.prog tt (specsM f R) 20
/-- an entry off the list's end; the list may have been cut -/
def popQ (x : WSt) (o : Option Nat) (d : Int) (m : Int) (k : Option Nat → Int → OW) : OW :=
  bif m == 0 then k o d else
  bif decide (w64 ((lenOf x.2.1 0 o : Int) - 1) < 0) then retW (x.1, cut x.2.1 0 o, d, x.2.2.2) 14 else
  bif inRange (w64 ((lenOf x.2.1 0 o : Int) - 1)) (lenOf x.2.1 0 o) then
    bif x.2.1.getD (w64 ((lenOf x.2.1 0 o : Int) - 1)).toNat 0 != m then retW (x.1, cut x.2.1 0 o, d, x.2.2.2) 6 else
    bif decide (0 ≤ w64 ((lenOf x.2.1 0 o : Int) - 1)) && decide (w64 ((lenOf x.2.1 0 o : Int) - 1) ≤ (lenOf x.2.1 0 o : Int)) then
      szQ m fun s => k (some (w64 ((lenOf x.2.1 0 o : Int) - 1)).toNat) (w64 (d - s)) else none
  else none
def setM (f : Nv.Form) (x : WSt) : OW := bif f.2.2.2.1 != 0 then retW (f.2.2.2.1, x.2) 0 else retW x 0
def setOuts (x : WSt) (n : Int) : WSt := (x.1, x.2.1, x.2.2.1, x.2.2.2.1, x.2.2.2.2.1, x.2.2.2.2.2.1, x.2.2.2.2.2.2.1, x.2.2.2.2.2.2.2.1, n, x.2.2.2.2.2.2.2.2.2)
def outsQ (f : Nv.Form) (x : WSt) (t : Bool) : OW := bif t then (bif decide (x.2.2.2.2.2.2.2.2.1 ≥ 8) then retW x 13 else setM f (setOuts x (w64 (x.2.2.2.2.2.2.2.2.1 + 1)))) else setM f x
def endQ (f : Nv.Form) (i : Ins) (x : WSt) : OW := bif i.1 == 33 then outsQ f x true else bif i.1 == 34 then outsQ f x true else outsQ f x (i.1 == 35)
def pushQ5 (f : Nv.Form) (i : Ins) (x : WSt) : OW := bif f.2.2.2.2 then szQ x.1 fun s => bif decide (w64 (x.2.2.1 + s) > 18) then retW x 13 else app (x.2.1 ++ [x.1]) fun L => szQ x.1 fun s => endQ f i (x.1, L, w64 (x.2.2.1 + s), x.2.2.2) else endQ f i x
def bodyM (f : Nv.Form) (i : Ins) (x : WSt) : OW := popQ x none x.2.2.1 f.2.1 fun o d => popQ x o d f.2.2.1 fun o d => pushQ5 f i (x.1, cut x.2.1 0 o, d, x.2.2.2)
def pushM (f : Nv.Form) (i : Ins) (x : WSt) : OW := bif f.2.2.2.2 then (bif x.1 == 0 then retW x 6 else bodyM f i x) else bodyM f i x
def modesK (f : Nv.Form) (i : Ins) (x : WSt) : OW := onlyQ (kn i.1 && decide (Nv.form i.1 = f)) (bif f.1 != 0 then (bif f.1 != x.1 then retW x 6 else pushM f i x) else pushM f i x)
noncomputable abbrev e34 (f : Nv.Form) (i : Ins) (x : WSt) : OW := evalP Tryz.prog tt (callM f) [] [] 29 trWalk sIns rE x (i, ())
theorem m34_00010 (i : Ins) (x : WSt) : e34 (0, 0, 0, 1, false) i x = modesK (0, 0, 0, 1, false) i x := by kernel_rfl
theorem m34_00020 (i : Ins) (x : WSt) : e34 (0, 0, 0, 2, false) i x = modesK (0, 0, 0, 2, false) i x := by kernel_rfl
theorem m34_10000 (i : Ins) (x : WSt) : e34 (1, 0, 0, 0, false) i x = modesK (1, 0, 0, 0, false) i x := by kernel_rfl
theorem m34_20000 (i : Ins) (x : WSt) : e34 (2, 0, 0, 0, false) i x = modesK (2, 0, 0, 0, false) i x := by kernel_rfl
theorem m34_00001 (i : Ins) (x : WSt) : e34 (0, 0, 0, 0, true) i x = modesK (0, 0, 0, 0, true) i x := by kernel_rfl
theorem m34_01010 (i : Ins) (x : WSt) : e34 (0, 1, 0, 1, false) i x = modesK (0, 1, 0, 1, false) i x := by kernel_rfl
theorem m34_02020 (i : Ins) (x : WSt) : e34 (0, 2, 0, 2, false) i x = modesK (0, 2, 0, 2, false) i x := by kernel_rfl
theorem m34_11010 (i : Ins) (x : WSt) : e34 (1, 1, 0, 1, false) i x = modesK (1, 1, 0, 1, false) i x := by kernel_rfl
theorem m34_10010 (i : Ins) (x : WSt) : e34 (1, 0, 0, 1, false) i x = modesK (1, 0, 0, 1, false) i x := by kernel_rfl
theorem m34_22020 (i : Ins) (x : WSt) : e34 (2, 2, 0, 2, false) i x = modesK (2, 2, 0, 2, false) i x := by kernel_rfl
theorem m34_20020 (i : Ins) (x : WSt) : e34 (2, 0, 0, 2, false) i x = modesK (2, 0, 0, 2, false) i x := by kernel_rfl
theorem m34_22010 (i : Ins) (x : WSt) : e34 (2, 2, 0, 1, false) i x = modesK (2, 2, 0, 1, false) i x := by kernel_rfl
theorem m34_12020 (i : Ins) (x : WSt) : e34 (1, 2, 0, 2, false) i x = modesK (1, 2, 0, 2, false) i x := by kernel_rfl
theorem m34_20010 (i : Ins) (x : WSt) : e34 (2, 0, 0, 1, false) i x = modesK (2, 0, 0, 1, false) i x := by kernel_rfl
theorem m34_11120 (i : Ins) (x : WSt) : e34 (1, 1, 1, 2, false) i x = modesK (1, 1, 1, 2, false) i x := by kernel_rfl
theorem m34_00000 (i : Ins) (x : WSt) : e34 (0, 0, 0, 0, false) i x = modesK (0, 0, 0, 0, false) i x := by kernel_rfl
theorem e34_all {f : Nv.Form} (h : f ∈ allForms) (i : Ins) (x : WSt) : e34 f i x = modesK f i x := by
  simp only [allForms, List.mem_cons, List.not_mem_nil, or_false] at h
  rcases h with rfl | rfl | rfl | rfl | rfl | rfl | rfl | rfl | rfl | rfl | rfl | rfl | rfl | rfl | rfl | rfl
  · exact m34_00010 i x
  · exact m34_00020 i x
  · exact m34_10000 i x
  · exact m34_20000 i x
  · exact m34_00001 i x
  · exact m34_01010 i x
  · exact m34_02020 i x
  · exact m34_11010 i x
  · exact m34_10010 i x
  · exact m34_22020 i x
  · exact m34_20020 i x
  · exact m34_22010 i x
  · exact m34_12020 i x
  · exact m34_20010 i x
  · exact m34_11120 i x
  · exact m34_00000 i x
/-! ### step -/
structure GW where
  modes : WSt → Ins → OW
  sr : Int → Int
  sw : Int → Int
def specsW (g : GW) (R : Type) (fn : FuncId) : Option (List V → Mem → Nat → (Eff → Option R) → Option R) :=
  match fn with
  | 28 => some (specD sOp [.val tI, .val tI] (fun _ => true) fun x => (g.sr x.1, g.sw x.1, ()))
  | 29 => some (specP trWalk sIns rE fun x y => g.modes x y.1)
  | _ => none
noncomputable def callW (g : GW) (R : Type) : CallE R := callsE Tryz.prog tt (specsW g R) 20
def stp0 : LoopP := ⟨0, 0, trWalk, [Sl.box 3 (.dat tInstr), Sl.val 6 tI, Sl.val 35 tI, Sl.val 36 tI], [Sl.box 3 (.dat tInstr), Sl.val 6 tI], []⟩
def stp2 : LoopP := ⟨2, 0, trWalk, [Sl.box 3 (.dat tInstr), Sl.val 58 tI, Sl.val 59 tI], [], []⟩
abbrev X210 := WSt × Ins × Int × Int × Int × Unit
abbrev X212 := WSt × Ins × Int × Int × Unit
noncomputable def S210 (g : GW) : X210 → Option (X210 ⊕ ((WSt × Ins × Int × Unit) ⊕ (WSt × Unit))) := stepPt tt (callW g) Tryz.f15.ntmps (hookPt tt (callW g) 100000 [stp0, stp2] [] Tryz.f15.ntmps 4) 100000 stp0 ((loopBody 0 ((Tryz.f15.body).getD .skip)).getD .skip)
noncomputable def S212 (g : GW) : X212 → Option (X212 ⊕ ((WSt × Unit) ⊕ (WSt × Unit))) := stepPt tt (callW g) Tryz.f15.ntmps (hookPt tt (callW g) 100000 [stp0, stp2] [] Tryz.f15.ntmps 4) 100000 stp2 ((loopBody 2 ((Tryz.f15.body).getD .skip)).getD .skip)
def setR (x : WSt) (m : Mp) : WSt := (x.1, x.2.1, x.2.2.1, m, x.2.2.2.2)
def setW (x : WSt) (m : Mp) : WSt := (x.1, x.2.1, x.2.2.1, x.2.2.2.1, m, x.2.2.2.2.2)
def setSteps (x : WSt) (n : Int) : WSt := (x.1, x.2.1, x.2.2.1, x.2.2.2.1, x.2.2.2.2.1, x.2.2.2.2.2.1, x.2.2.2.2.2.2.1, n, x.2.2.2.2.2.2.2.2)
theorem S210_eq (g : GW) (x : WSt) (i : Ins) (w n k : Int) : S210 g (x, i, w, n, k, ()) =
    bif decide (k < n) then bif !(getL (w64 (i.2.1 + k)) false x.2.2.2.2.1) then (bif wfI (w64 (i.2.1 + k)) then some (.inl (setR x (putL (w64 (i.2.1 + k)) true x.2.2.2.1), i, w, n, w64 (k + 1), ())) else none)
      else some (.inl (x, i, w, n, w64 (k + 1), ()))
    else some (.inr (.inl (x, i, w, ()))) := by kernel_rfl
theorem S212_eq (g : GW) (x : WSt) (i : Ins) (n k : Int) : S212 g (x, i, n, k, ()) =
    bif decide (k < n) then (bif wfI (w64 (i.2.1 + k)) then some (.inl (setW x (putL (w64 (i.2.1 + k)) true x.2.2.2.2.1), i, n, w64 (k + 1), ())) else none)
    else some (.inr (.inl (x, ()))) := by kernel_rfl
noncomputable def stepM (g : GW) (i : Ins) (x : WSt) : OW := match g.modes x i with
  | none => none
  | some z => bif z.2.1 != 0 then retW z.1 z.2.1 else match lim (S210 g) (z.1, i, g.sw i.1, g.sr i.1, 0, ()) with
    | none => none
    | some (.inl y) => (match lim (S212 g) (y.1, y.2.1, y.2.2.1, 0, ()) with
      | none => none
      | some (.inl q) => retW (setSteps q.1 (w64 (q.1.2.2.2.2.2.2.2.1 + 1))) 0
      | some (.inr _) => none)
    | some (.inr _) => none
theorem e21_eq (g : GW) (i : Ins) (x : WSt) : evalP Tryz.prog tt (callW g) [stp0, stp2] [] 15 trWalk sIns rE x (i, ()) =
    bif decide (w64 (g.sr i.1 + g.sw i.1) > 0) then bif decide (w64 (w64 (i.2.1 + g.sr i.1) + g.sw i.1) > 2048) then retW x 3 else stepM g i x else stepM g i x := by kernel_rfl
end Go.Pv.Ef
/-! ### The program's Of: as the code says it. -/
namespace Go.Pv.Ef
open Go.Proofs
set_option maxRecDepth 1000000
structure GF where
  dec : List Int → Int → Ins × Int × Int
  dDec : List Int → Bool
  step : WSt → Ins → OW
def specsF (g : GF) (R : Type) (fn : FuncId) : Option (List V → Mem → Nat → (Eff → Option R) → Option R) :=
  match fn with
  | 14 => some (specD sDec rDec (fun x => g.dDec x.1) fun x => ((g.dec x.1 x.2.1).1, (g.dec x.1 x.2.1).2.1, (g.dec x.1 x.2.1).2.2, ()))
  | 15 => some (specP trWalk sIns rE fun x y => g.step x y.1)
  | 16 => some (specSort srt)
  | _ => none
noncomputable def callF (g : GF) (R : Type) : CallE R := callsE Tryz.prog tt (specsF g R) 20
@[reducible] def rOf : TSh := [⟨0, true, false, trEff⟩, Sl.val 1 tI, Sl.val 2 tI]
def of0 : LoopT := ⟨0, [Sl.val 0 tWs, Sl.box 2 trEff, Sl.box 5 trWalk, Sl.val 6 tI], [Sl.val 0 tWs, Sl.box 2 trEff], [Sl.box 2 trEff, Sl.val 3 tI, Sl.val 4 tI]⟩
abbrev X60 := List Int × Eff5 × WSt × Int × Unit
abbrev R60 := Eff5 × Int × Int × Unit
abbrev O60 := Option (X60 ⊕ ((List Int × Eff5 × Unit) ⊕ R60))
noncomputable def S60 (g : GF) : X60 → O60 := stepT tt (callF g) Tryz.f6.ntmps (hookT tt (callF g) 100000 [of0] [] Tryz.f6.ntmps 4) 100000 of0 ((loopBody 0 ((Tryz.f6.body).getD .skip)).getD .skip)
def effZ : Eff5 := ([], [], 0, 0, [])
def ret6 (f : Eff5) (a e : Int) : O60 := some (.inr (.inr (f, a, e, ())))
def srtQ {α : Type} (m : Mp) (k : List Int → Option α) : Option α := bif decide (m.length ≤ 1000000000) then k (srt (m.map (·.1))) else none
def fin6 (code : List Int) (i : Ins) (x : WSt) (next : Int) : O60 :=
  bif decide (next < (code.length : Int)) then ret6 effZ next 5 else
  let k2 (N : List Int) : O60 := srtQ x.2.2.2.1 fun A => srtQ x.2.2.2.2.1 fun B => ret6 (A, B, x.2.2.2.2.2.2.2.1, x.2.2.2.2.2.2.2.2.1, N) 0 0
  let k1 (N : List Int) : O60 := bif i.1 == 37 then app (N ++ [i.2.2.1]) k2 else k2 N
  bif i.1 != 38 then app (x.2.2.2.2.2.2.2.2.2 ++ [i.2.1]) k1 else k1 x.2.2.2.2.2.2.2.2.2
def rest6 (code : List Int) (e : Eff5) (i : Ins) (x : WSt) (next : Int) : O60 :=
  bif i.1 != 36 then bif i.1 != 37 then bif i.1 != 38 then some (.inl (code, e, x, next, ())) else fin6 code i x next else fin6 code i x next else fin6 code i x next
def step6 (code : List Int) (at_ : Int) (o : OW) (k : WSt → O60) : O60 := match o with
  | none => none
  | some z => bif z.2.1 != 0 then ret6 effZ at_ z.2.1 else k z.1
def body6 (g : GF) (code : List Int) (e : Eff5) (x : WSt) (at_ : Int) (d : Ins × Int × Int) : O60 :=
  bif d.2.2 == 0 then step6 code at_ (g.step x d.1) fun y => rest6 code e d.1 y d.2.1
  else bif d.2.2 != 0 then ret6 effZ at_ d.2.2 else rest6 code e d.1 x d.2.1
theorem S60_eq (g : GF) (code : List Int) (e : Eff5) (x : WSt) (at_ : Int) : S60 g (code, e, x, at_, ()) =
    bif decide (at_ < (code.length : Int)) then onlyQ (g.dDec code) (body6 g code e x at_ (g.dec code at_)) else some (.inr (.inl (code, e, ()))) := by kernel_rfl
def walk0 : WSt := (0, [], 0, [], [], [], [], 0, 0, [])
theorem e6_eq (g : GF) (code : List Int) : evalT Tryz.prog tt (callF g) [of0] [] 6 [.val tWs] rOf (code, ()) =
    bif decide ((code.length : Int) > 1024) then some (effZ, 0, 4, ()) else match lim (S60 g) (code, effZ, walk0, 0, ()) with
    | none => none
    | some (.inl y) => some (effZ, (y.1.length : Int), 9, ())
    | some (.inr y) => some y := by kernel_rfl
end Go.Pv.Ef
/-! ### Safe, Check, Same, live, the laws EffectTells and EffectLists: as the code says it. -/
namespace Go.Pv.Ef
open Go.Proofs
set_option maxRecDepth 1000000
@[reducible] def tEff : Ty := .pair tIs (.pair tIs (.pair tI (.pair tI tIs)))
@[reducible] def sE1 : Sig := [.agg tEff]
@[reducible] def sEE : Sig := [.agg tEff, .agg tEff]
@[reducible] def sC1 : Sig := [.val tWs]
@[reducible] def sB : Sig := [.val .bool]
structure GT where
  of : List Int → Eff5 × Int × Int
  dOf : List Int → Bool
  com : List Int → List Int → List Int
  dCom : List Int → List Int → Bool
  safe : Eff5 → Bool
  dSafe : Eff5 → Bool
  chk : List Int → Int
  same : Eff5 → Eff5 → Bool
  dSame : Eff5 → Eff5 → Bool
  ints : List Int → List Int → Bool
  dInts : List Int → List Int → Bool
  sameW : List Int → List Int → Bool
  dSameW : List Int → List Int → Bool
def specsT (g : GT) (on : List Nat) (R : Type) (fn : FuncId) : Option (List V → Mem → Nat → (Eff → Option R) → Option R) :=
  bif hasN fn on then (match fn with
  | 6 => some (specL sC1 rOf fun x => bif g.dOf x.1 then some ((g.of x.1).1, (g.of x.1).2.1, (g.of x.1).2.2, ()) else none)
  | 17 => some (specL sEE [Sl.val 0 .bool] fun x => bif g.dSame x.1 x.2.1 then some (g.same x.1 x.2.1, ()) else none)
  | 20 => some (specL sE1 [Sl.val 0 .bool] fun x => bif g.dSafe x.1 then some (g.safe x.1, ()) else none)
  | 12 => some (specL sE1 [Sl.val 0 .bool] fun x => bif g.dSafe x.1 then some (g.safe x.1, ()) else none)
  | 11 => some (specL sC1 [Sl.val 0 tI] fun x => bif g.dOf x.1 then some (g.chk x.1, ()) else none)
  | 13 => some (specL [.val tWs, .val tWs] [Sl.val 0 .bool] fun x => bif g.dSameW x.1 x.2.1 then some (g.sameW x.1 x.2.1, ()) else none)
  | 7 => some (specL [] [Sl.val 0 .bool] fun _ => some (true, ()))
  | 31 => some (specL sLL [Sl.val 0 .bool] fun x => bif g.dInts x.1 x.2.1 then some (g.ints x.1 x.2.1, ()) else none)
  | 39 => some (specL sLL rL fun x => bif g.dCom x.1 x.2.1 then some (g.com x.1 x.2.1, ()) else none)
  | 21 => some (specL sLL rL fun x => bif g.dCom x.1 x.2.1 then some (g.com x.1 x.2.1, ()) else none)
  | _ => none) else none
noncomputable def callT (g : GT) (on : List Nat) (R : Type) : CallE R := callsE Tryz.prog tt (specsT g on R) 20
def getQ {α β : Type} (d : Bool) (v : α) (k : α → Option β) : Option β := match (bif d then some v else none : Option α) with
  | none => none
  | some y => k y
def askQ {α β : Type} (d : Bool) (v : α) (k : α → Option β) : Option β := match (bif d then some (v, ()) else none : Option (α × Unit)) with
  | none => none
  | some y => k y.1
abbrev OB := Option (Bool × Unit)
def andQ (b : Bool) (k : OB) : OB := bif b then k else some (false, ())
theorem e9_eq (g : GT) (f : Eff5) : evalT Tryz.prog tt (callT g [39]) [] [] 20 sE1 [Sl.val 0 .bool] (f, ()) = askQ (g.dCom f.1 f.2.1) (g.com f.1 f.2.1) fun l => some ((l.length : Int) == 0, ()) := by kernel_rfl
theorem e10_eq (g : GT) (f : Eff5) : evalT Tryz.prog tt (callT g [21]) [] [] 12 sE1 [Sl.val 0 .bool] (f, ()) = askQ (g.dCom f.1 f.2.1) (g.com f.1 f.2.1) fun l => some ((l.length : Int) == 0, ()) := by kernel_rfl
def ofQ {β : Type} (g : GT) (c : List Int) (k : Eff5 × Int × Int × Unit → Option β) : Option β := getQ (g.dOf c) ((g.of c).1, (g.of c).2.1, (g.of c).2.2, ()) k
def chkQ (g : GT) (c : List Int) : Option (Int × Unit) := ofQ g c fun y => bif y.2.2.1 == 0 then askQ (g.dSafe y.1) (g.safe y.1) fun b => bif !b then some (15, ()) else some (y.2.2.1, ()) else some (y.2.2.1, ())
theorem e11_eq (g : GT) (c : List Int) : evalT Tryz.prog tt (callT g [6, 20]) [] [] 11 sC1 [Sl.val 0 tI] (c, ()) = chkQ g c := by kernel_rfl
theorem e8_eq (g : GT) (a b : Eff5) : evalT Tryz.prog tt (callT g [31]) [] [] 17 sEE [Sl.val 0 .bool] (a, b, ()) =
    askQ (g.dInts a.1 b.1) (g.ints a.1 b.1) fun y => andQ y (askQ (g.dInts a.2.1 b.2.1) (g.ints a.2.1 b.2.1) fun y => andQ y (andQ (a.2.2.1 == b.2.2.1) (andQ (a.2.2.2.1 == b.2.2.2.1)
      (askQ (g.dInts a.2.2.2.2 b.2.2.2.2) (g.ints a.2.2.2.2 b.2.2.2.2) fun y => some (y, ()))))) := by kernel_rfl
def liveEff : Eff5 := ([64, 65], [66, 67], 3, 0, [2])
theorem e14v_eq (g : GT) : evalT Tryz.prog tt (callT g [6, 17, 11]) [] [] 7 [] [Sl.val 0 .bool] () =
    ofQ g [1, 64, 3, 66, 36, 2] fun y => askQ (g.dOf [1, 64, 3, 64, 38]) (g.chk [1, 64, 3, 64, 38]) fun c => andQ (y.2.2.1 == 0) (askQ (g.dSame y.1 liveEff) (g.same y.1 liveEff) fun b => andQ b (some (c == 15, ()))) := by kernel_rfl
end Go.Pv.Ef
/-! ### Lists of numbers as sets: insertion in order, what two lists have in common, keys of a map. -/
namespace Go.Nv
open Go.Pv (putL getL hasL)
def cntLt (l : List Int) (n : Int) : Nat := (l.takeWhile fun x => decide (x < n)).length
def ins : List Int → Int → List Int
  | [], n => [n]
  | x :: r, n => if x < n then x :: ins r n else n :: x :: r
theorem cntLt_le : ∀ (l : List Int) (n : Int), cntLt l n ≤ l.length
  | [], _ => Nat.le_refl _
  | x :: r, n => by
    unfold cntLt
    by_cases h : x < n
    · rw [List.takeWhile_cons_of_pos (by simpa using h)]
      have := cntLt_le r n
      unfold cntLt at this
      simp only [List.length_cons]; omega
    · rw [List.takeWhile_cons_of_neg (by simpa using h)]
      exact Nat.zero_le _
theorem ins_eq : ∀ (l : List Int) (n : Int), l.take (cntLt l n) ++ [n] ++ l.drop (cntLt l n) = ins l n
  | [], _ => rfl
  | x :: r, n => by
    have ih := ins_eq r n
    unfold cntLt at ih ⊢
    simp only [ins]
    by_cases h : x < n
    · rw [List.takeWhile_cons_of_pos (by simpa using h), if_pos h]
      simp only [List.length_cons, List.take_succ_cons, List.drop_succ_cons, List.cons_append]
      rw [ih]
    · rw [List.takeWhile_cons_of_neg (by simpa using h), if_neg h]
      rfl
/-- the first that is not less -/
theorem cntLt_get : ∀ (l : List Int) (n : Int) (i : Nat), i ≤ cntLt l n → i < l.length → (l.getD i 0 < n ↔ i < cntLt l n)
  | [], _, i, _, h => by simp at h
  | x :: r, n, i, hi, hl => by
    unfold cntLt at hi ⊢
    by_cases h : x < n
    · rw [List.takeWhile_cons_of_pos (by simpa using h)] at hi ⊢
      cases i with
      | zero => simp [h]
      | succ i =>
        have := cntLt_get r n i (by unfold cntLt; simpa using hi) (by simpa using hl)
        unfold cntLt at this
        simp only [List.getD_cons_succ, List.length_cons]
        rw [this]; omega
    · rw [List.takeWhile_cons_of_neg (by simpa using h)] at hi ⊢
      have : i = 0 := by simpa using hi
      subst this
      simp [h]
theorem mem_ins {x : Int} : ∀ (l : List Int) (n : Int), x ∈ ins l n ↔ x = n ∨ x ∈ l
  | [], n => by simp [ins]
  | y :: r, n => by
    simp only [ins]
    split
    · simp only [List.mem_cons, mem_ins r n]
      constructor
      · rintro (h | h | h)
        · exact .inr (.inl h)
        · exact .inl h
        · exact .inr (.inr h)
      · rintro (h | h | h)
        · exact .inr (.inl h)
        · exact .inl h
        · exact .inr (.inr h)
    · simp only [List.mem_cons]
theorem ins_sorted : ∀ (l : List Int) (n : Int), l.Pairwise (· < ·) → n ∉ l → (ins l n).Pairwise (· < ·)
  | [], n, _, _ => by simp [ins]
  | x :: r, n, hp, hn => by
    obtain ⟨h1, h2⟩ := List.pairwise_cons.1 hp
    simp only [List.mem_cons, not_or] at hn
    simp only [ins]
    by_cases h : x < n
    · rw [if_pos h]
      refine List.pairwise_cons.2 ⟨fun y hy => ?_, ins_sorted r n h2 hn.2⟩
      rcases (mem_ins r n).1 hy with rfl | hy
      · exact h
      · exact h1 y hy
    · rw [if_neg h]
      refine List.pairwise_cons.2 ⟨fun y hy => ?_, hp⟩
      have hx : n < x := by omega
      rcases List.mem_cons.1 hy with rfl | hy
      · exact hx
      · have := h1 y hy; omega
def inB (l : List Int) (n : Int) : Bool := decide (n ∈ l)
/-- an ascending list with a number -/
def withP (l : List Int) (n : Int) : List Int := if inB l n = true then l else ins l n
theorem mem_withP {x : Int} {l : List Int} {n : Int} : x ∈ withP l n ↔ x = n ∨ x ∈ l := by
  unfold withP inB
  by_cases h : n ∈ l
  · rw [if_pos (by simpa using h)]
    constructor
    · exact .inr
    · rintro (rfl | hx)
      · exact h
      · exact hx
  · rw [if_neg (by simpa using h)]; exact mem_ins l n
theorem withP_sorted {l : List Int} (n : Int) (h : l.Pairwise (· < ·)) : (withP l n).Pairwise (· < ·) := by
  unfold withP inB
  by_cases hn : n ∈ l
  · rw [if_pos (by simpa using hn)]; exact h
  · rw [if_neg (by simpa using hn)]; exact ins_sorted l n h hn
theorem ins_len : ∀ (l : List Int) (n : Int), (ins l n).length = l.length + 1
  | [], _ => rfl
  | x :: r, n => by simp only [ins]; split <;> simp [ins_len r n]
theorem withP_len (l : List Int) (n : Int) : (withP l n).length ≤ l.length + 1 := by
  unfold withP; split
  · omega
  · rw [ins_len]; exact Nat.le_refl _
/-! ### Ascending order -/
def srt (l : List Int) : List Int := l.mergeSort fun x y => decide (x ≤ y)
theorem srt_perm (l : List Int) : (srt l).Perm l := List.mergeSort_perm l _
theorem srt_sorted (l : List Int) : (srt l).Pairwise (· ≤ ·) := by
  have tr : ∀ a b c : Int, decide (a ≤ b) = true → decide (b ≤ c) = true → decide (a ≤ c) = true := fun a b c h1 h2 => by simp only [decide_eq_true_eq] at *; omega
  have to : ∀ a b : Int, (decide (a ≤ b) || decide (b ≤ a)) = true := fun a b => by simp only [Bool.or_eq_true, decide_eq_true_eq]; omega
  exact (List.pairwise_mergeSort tr to l).imp fun h => by simpa using h
/-- a set's ascending list is one -/
theorem srt_unique {l s : List Int} (hn : l.Nodup) (hs : s.Pairwise (· < ·)) (hm : ∀ x, x ∈ l ↔ x ∈ s) : srt l = s := by
  have hsn : s.Nodup := hs.imp fun h => by omega
  have hp : l.Perm s := (List.perm_ext_iff_of_nodup hn hsn).2 hm
  refine List.Perm.eq_of_pairwise (le := fun a b => a ≤ b) (fun a b _ _ h1 h2 => by omega) (srt_sorted l) (hs.imp fun h => by omega) ((srt_perm l).trans hp)
/-! ### Maps as sets -/
def keys (m : List (Int × Bool)) : List Int := m.map (·.1)
theorem keys_put (n : Int) (x : Bool) : ∀ m : List (Int × Bool), keys (putL n x m) = if n ∈ keys m then keys m else keys m ++ [n]
  | [] => rfl
  | p :: r => by
    have ih := keys_put n x r
    unfold keys at ih ⊢
    simp only [putL, List.map_cons, List.mem_cons]
    by_cases h : p.1 = n
    · rw [decide_eq_true h]
      simp [h]
    · rw [decide_eq_false h]
      simp only [cond_false, List.map_cons, ih]
      have h' : ¬ n = p.1 := fun e => h e.symm
      by_cases h2 : n ∈ List.map (fun x => x.1) r
      · rw [if_pos h2, if_pos (.inr h2)]
      · rw [if_neg h2, if_neg (not_or.2 ⟨h', h2⟩)]; rfl
theorem mem_keys_put {n y : Int} {x : Bool} {m : List (Int × Bool)} : y ∈ keys (putL n x m) ↔ y = n ∨ y ∈ keys m := by
  rw [keys_put]
  split
  · rename_i h
    constructor
    · exact .inr
    · rintro (rfl | h')
      · exact h
      · exact h'
  · simp only [List.mem_append, List.mem_singleton]
    constructor
    · rintro (h | h)
      · exact .inr h
      · exact .inl h
    · rintro (h | h)
      · exact .inr h
      · exact .inl h
theorem nodup_put {n : Int} {x : Bool} {m : List (Int × Bool)} (h : (keys m).Nodup) : (keys (putL n x m)).Nodup := by
  rw [keys_put]
  split
  · exact h
  · rename_i hn
    exact List.nodup_append.2 ⟨h, by simp, fun a ha b hb => by simp at hb; subst hb; exact fun e => hn (e ▸ ha)⟩
theorem put_len (n : Int) (x : Bool) (m : List (Int × Bool)) : (putL n x m).length ≤ m.length + 1 := by
  have := congrArg List.length (keys_put n x m)
  unfold keys at this
  simp only [List.length_map] at this
  rw [this]
  split <;> simp
/-- all entries are true -/
def AllT (m : List (Int × Bool)) : Prop := ∀ p ∈ m, p.2 = true
theorem allT_put {n : Int} : ∀ {m : List (Int × Bool)}, AllT m → AllT (putL n true m)
  | [], _ => fun p hp => by simp [putL] at hp; subst hp; rfl
  | q :: r, h => fun p hp => by
    simp only [putL] at hp
    by_cases hq : q.1 = n
    · rw [decide_eq_true hq] at hp
      simp only [cond_true, List.mem_cons] at hp
      rcases hp with rfl | hp
      · rfl
      · exact h p (by simp [hp])
    · rw [decide_eq_false hq] at hp
      simp only [cond_false, List.mem_cons] at hp
      rcases hp with rfl | hp
      · exact h p (by simp)
      · exact allT_put (fun p' hp' => h p' (by simp [hp'])) p hp
theorem get_iff {n : Int} : ∀ {m : List (Int × Bool)}, AllT m → (getL n false m = true ↔ n ∈ keys m)
  | [], _ => by simp [getL, keys]
  | q :: r, h => by
    have ih := get_iff (n := n) (m := r) fun p hp => h p (by simp [hp])
    simp only [getL]
    by_cases hq : q.1 = n
    · rw [decide_eq_true hq]
      simp [keys, hq, h q (by simp)]
    · rw [decide_eq_false hq]
      simp only [cond_false, ih]
      unfold keys
      simp only [List.map_cons, List.mem_cons]
      constructor
      · exact .inr
      · rintro (e | e)
        · exact absurd e.symm hq
        · exact e
/-! ### What two lists have in common -/
def comR (b : List Int) : List Int → List Int → List Int
  | [], o => o
  | x :: r, o => comR b r (if inB b x = true then withP o x else o)
def putAll : List Int → List (Int × Bool) → List (Int × Bool)
  | [], m => m
  | x :: r, m => putAll r (putL x true m)
def comM (m1 : List (Int × Bool)) : List Int → List (Int × Bool) → List (Int × Bool)
  | [], m => m
  | x :: r, m => comM m1 r (if getL x false m1 = true then putL x true m else m)
theorem comR_spec (b : List Int) : ∀ (a o : List Int), o.Pairwise (· < ·) → (comR b a o).Pairwise (· < ·) ∧ ∀ x, x ∈ comR b a o ↔ x ∈ o ∨ (x ∈ a ∧ x ∈ b)
  | [], o, h => ⟨h, fun x => by simp [comR]⟩
  | y :: r, o, h => by
    simp only [comR]
    have h2 : (if inB b y = true then withP o y else o).Pairwise (· < ·) := by
      split
      · exact withP_sorted y h
      · exact h
    obtain ⟨g1, g2⟩ := comR_spec b r _ h2
    refine ⟨g1, fun x => ?_⟩
    rw [g2 x]
    unfold inB
    by_cases hy : y ∈ b
    · rw [if_pos (by simpa using hy), mem_withP]
      simp only [List.mem_cons]
      constructor
      · rintro ((rfl | h) | ⟨h1, h2⟩)
        · exact .inr ⟨.inl rfl, hy⟩
        · exact .inl h
        · exact .inr ⟨.inr h1, h2⟩
      · rintro (h | ⟨rfl | h1, h2⟩)
        · exact .inl (.inr h)
        · exact .inl (.inl rfl)
        · exact .inr ⟨h1, h2⟩
    · rw [if_neg (by simpa using hy)]
      simp only [List.mem_cons]
      constructor
      · rintro (h | ⟨h1, h2⟩)
        · exact .inl h
        · exact .inr ⟨.inr h1, h2⟩
      · rintro (h | ⟨h1 | h1, h3⟩)
        · exact .inl h
        · exact absurd (h1 ▸ h3) hy
        · exact .inr ⟨h1, h3⟩
theorem putAll_spec : ∀ (a : List Int) (m : List (Int × Bool)), (keys m).Nodup → AllT m → (keys (putAll a m)).Nodup ∧ AllT (putAll a m) ∧ ∀ x, x ∈ keys (putAll a m) ↔ x ∈ keys m ∨ x ∈ a
  | [], m, h1, h2 => ⟨h1, h2, fun x => by simp [putAll]⟩
  | y :: r, m, h1, h2 => by
    obtain ⟨g1, g2, g3⟩ := putAll_spec r (putL y true m) (nodup_put h1) (allT_put h2)
    refine ⟨g1, g2, fun x => ?_⟩
    simp only [putAll]
    rw [g3 x, mem_keys_put]
    simp only [List.mem_cons]
    constructor
    · rintro ((h | h) | h)
      · exact .inr (.inl h)
      · exact .inl h
      · exact .inr (.inr h)
    · rintro (h | h | h)
      · exact .inl (.inr h)
      · exact .inl (.inl h)
      · exact .inr h
theorem comM_spec {m1 : List (Int × Bool)} (ht : AllT m1) : ∀ (b : List Int) (m : List (Int × Bool)), (keys m).Nodup → (keys (comM m1 b m)).Nodup ∧ ∀ x, x ∈ keys (comM m1 b m) ↔ x ∈ keys m ∨ (x ∈ b ∧ x ∈ keys m1)
  | [], m, h1 => ⟨h1, fun x => by simp [comM]⟩
  | y :: r, m, h1 => by
    simp only [comM]
    by_cases hy : y ∈ keys m1
    · rw [if_pos ((get_iff ht).2 hy)]
      obtain ⟨g1, g2⟩ := comM_spec ht r (putL y true m) (nodup_put h1)
      refine ⟨g1, fun x => ?_⟩
      rw [g2 x, mem_keys_put]
      simp only [List.mem_cons]
      constructor
      · rintro ((rfl | h) | ⟨h, h'⟩)
        · exact .inr ⟨.inl rfl, hy⟩
        · exact .inl h
        · exact .inr ⟨.inr h, h'⟩
      · rintro (h | ⟨rfl | h, h'⟩)
        · exact .inl (.inr h)
        · exact .inl (.inl rfl)
        · exact .inr ⟨h, h'⟩
    · rw [if_neg (fun h => hy ((get_iff ht).1 h))]
      obtain ⟨g1, g2⟩ := comM_spec ht r m h1
      refine ⟨g1, fun x => ?_⟩
      rw [g2 x]
      simp only [List.mem_cons]
      constructor
      · rintro (h | ⟨h, h'⟩)
        · exact .inl h
        · exact .inr ⟨.inr h, h'⟩
      · rintro (h | ⟨rfl | h, h'⟩)
        · exact .inl h
        · exact absurd h' hy
        · exact .inr ⟨h, h'⟩
def common (a b : List Int) : List Int := comR b a []
theorem common_eq (a b : List Int) : srt (keys (comM (putAll a []) b [])) = common a b := by
  obtain ⟨h1, h2, h3⟩ := putAll_spec a [] (by simp [keys]) (fun p hp => by simp at hp)
  obtain ⟨g1, g2⟩ := comM_spec h2 b [] (by simp [keys])
  obtain ⟨k1, k2⟩ := comR_spec b a [] List.Pairwise.nil
  refine srt_unique g1 k1 fun x => ?_
  show _ ↔ x ∈ comR b a []
  rw [g2 x, k2 x, h3 x]
  simp only [keys, List.map_nil, List.not_mem_nil, false_or]
  exact And.comm
theorem putAll_len : ∀ (a : List Int) (m : List (Int × Bool)), (putAll a m).length ≤ m.length + a.length
  | [], m => by simp [putAll]
  | y :: r, m => by
    have := putAll_len r (putL y true m)
    have := put_len y true m
    simp only [putAll, List.length_cons]; omega
theorem comM_len (m1 : List (Int × Bool)) : ∀ (b : List Int) (m : List (Int × Bool)), (comM m1 b m).length ≤ m.length + b.length
  | [], m => by simp [comM]
  | y :: r, m => by
    simp only [comM, List.length_cons]
    split
    · have := comM_len m1 r (putL y true m)
      have := put_len y true m; omega
    · have := comM_len m1 r m; omega
theorem comR_len (b : List Int) : ∀ (a o : List Int), (comR b a o).length ≤ o.length + a.length
  | [], o => by simp [comR]
  | y :: r, o => by
    simp only [comR, List.length_cons]
    split
    · have := comR_len b r (withP o y)
      have := withP_len o y; omega
    · have := comR_len b r o; omega
end Go.Nv
/-! ### In, With, Common, Words, Ints, words compute the plain functions. -/
namespace Go.Pv.Ef
open Go.Proofs
set_option maxRecDepth 1000000
theorem mkT {f : FuncId} {sa : Sig} {sr : TSh} {F : sa.den → Option sr.den}
    (h : ∀ x y, F x = some y → ∃ callE : (R : Type) → CallE R, (∀ R, CallsOK Tryz.prog (callE R)) ∧ ∃ lts sps, evalT Tryz.prog tt callE lts sps f sa sr x = some y) : FnT Tryz.prog f sa sr F := fun x y hF => by
  obtain ⟨callE, h1, lts, sps, h2⟩ := h x y hF
  exact evalT_ok tt_ok mixed names h1 h2
/-- a function that answers on a domain -/
theorem domT {f : FuncId} {sa : Sig} {sr : TSh} {D : sa.den → Bool} {F : sa.den → sr.den}
    (h : ∀ x, D x = true → ∃ callE : (R : Type) → CallE R, (∀ R, CallsOK Tryz.prog (callE R)) ∧ ∃ lts sps, evalT Tryz.prog tt callE lts sps f sa sr x = some (F x)) :
    FnT Tryz.prog f sa sr fun x => bif D x then some (F x) else none := mkT fun x y hy => by
  cases hd : D x with
  | false => simp only [hd, cond_false] at hy; cases hy
  | true =>
    simp only [hd, cond_true] at hy
    cases hy
    obtain ⟨c, h1, l, s, h2⟩ := h x hd
    exact ⟨c, h1, l, s, h2⟩
def big9 : Nat := 1000000000
def short (n : Nat) (l : List Int) : Bool := Nat.ble l.length n
theorem short_iff {n : Nat} {l : List Int} : short n l = true ↔ l.length ≤ n := by
  unfold short; exact ⟨Nat.le_of_ble_eq_true, Nat.ble_eq_true_of_le⟩
theorem inR {i n : Nat} (h : i < n) : inRange (i : Int) n = true := by simp [inRange]; omega
theorem app_ok {α β : Type} {l : List α} {k : List α → Option β} (h : l.length ≤ 1000000000) : app l k = k l := by
  unfold app
  rw [decide_eq_true (show l.length ≤ maxRow from h), cond_true]
theorem drop_cons {l : List Int} {i : Nat} (h : i < l.length) : l.drop i = l.getD i 0 :: l.drop (i + 1) := by
  rw [List.drop_eq_getElem_cons h]
  simp [List.getD, h]
/-! ### In -/
theorem in_loop (l : List Int) (m : Int) (hl : l.length ≤ 1000000000) : ∀ (n i : Nat), i + n = l.length → lim S25 (l, m, (i : Int), ()) = some (if m ∈ l.drop i then .inr (true, ()) else .inl ())
  | 0, i, h => by
    refine lim_end ?_
    rw [S25_eq, decide_eq_false (show ¬ (i : Int) < (l.length : Int) by omega), cond_false, if_neg (by rw [List.drop_eq_nil_of_le (by omega)]; simp)]
  | n + 1, i, h => by
    have e1 : decide ((i : Int) < (l.length : Int)) = true := decide_eq_true (by omega)
    by_cases hm : l.getD i 0 = m
    · refine lim_end ?_
      rw [S25_eq, e1, inR (by omega), cond_true, cond_true, Int.toNat_natCast, show (l.getD i 0 == m) = true by simpa using hm, cond_true, if_pos (by rw [drop_cons (by omega), hm]; simp)]
    · have hs : S25 (l, m, (i : Int), ()) = some (.inl (l, m, ((i + 1 : Nat) : Int), ())) := by
        rw [S25_eq, e1, inR (by omega), cond_true, cond_true, Int.toNat_natCast, beq_eq_false_iff_ne.2 hm, cond_false, w64_small (by omega) (by omega)]; rfl
      rw [lim_next hs, in_loop l m hl n (i + 1) (by omega)]
      congr 1
      have hm' : ¬ m = l.getD i 0 := fun e => hm e.symm
      by_cases hx : m ∈ l.drop (i + 1)
      · rw [if_pos hx, if_pos (by rw [drop_cons (by omega)]; exact List.mem_cons_of_mem _ hx)]
      · rw [if_neg hx, if_neg (by rw [drop_cons (by omega)]; simp only [List.mem_cons, not_or]; exact ⟨hm', hx⟩)]
theorem in_eq (l : List Int) (n : Int) (hl : l.length ≤ 1000000000) : evalF Tryz.prog tt call0 [loop25] 9 sLN [.val .bool] (l, n, ()) = some (Nv.inB l n, ()) := by
  rw [e25_eq]
  have := in_loop l n hl l.length 0 (by omega)
  rw [List.drop_zero] at this
  have e : lim S25 (l, n, 0, ()) = _ := this
  rw [e]
  unfold Nv.inB
  by_cases hm : n ∈ l
  · rw [if_pos hm, decide_eq_true hm]; rfl
  · rw [if_neg hm, decide_eq_false hm]; rfl
theorem fnIn : FnOK Tryz.prog 9 sLN [.val .bool] fun x => bif short big9 x.1 then some (Nv.inB x.1 x.2.1, ()) else none := fnDom fun x hx => by
  obtain ⟨l, n, ⟨⟩⟩ := x
  exact ⟨_, call0_ok, _, in_eq l n (short_iff.1 hx)⟩
/-! ### With -/
def gL : GLs := ⟨Nv.inB, short big9, Nv.withP, short 100000000⟩
theorem callI25_ok (g : GLs) (h : g.inn = Nv.inB) (hd : g.dInn = short big9) (R : Type) : CallsOK Tryz.prog (callI [9] g R) := callsE_ok tt_ok mixed names (fun f s hs => by
  simp only [hasN] at hs
  by_cases hf : f = 9
  · subst hf
    change some (specD sLN [.val .bool] (fun x => g.dInn x.1) fun x => (g.inn x.1 x.2.1, ())) = some s at hs
    rw [h, hd] at hs
    cases hs; exact specD_ok fnIn flat_bool (cntN 9 (by kernel_rfl))
  · rw [beq_ne hf] at hs; cases hs) 20
theorem with_loop (l : List Int) (m : Int) (o : List Int) (hl : l.length ≤ 1000000000) : ∀ (n i : Nat), i + n = Nv.cntLt l m → lim (S26 gL) (l, m, o, (i : Int), ()) = some (.inl (l, m, o, (Nv.cntLt l m : Int), ()))
  | 0, i, h => by
    refine lim_end ?_
    rw [S26_eq]
    have hc := Nv.cntLt_le l m
    have hi : i = Nv.cntLt l m := by omega
    by_cases h1 : i < l.length
    · have hg := Nv.cntLt_get l m i (by omega) h1
      have hno : ¬ l.getD i 0 < m := fun e => by have := hg.1 e; omega
      rw [decide_eq_true (show (i : Int) < (l.length : Int) by omega), inR h1, cond_true, cond_true, Int.toNat_natCast, decide_eq_false hno, cond_false, ← hi]
    · rw [decide_eq_false (show ¬ (i : Int) < (l.length : Int) by omega), cond_false, ← hi]
  | n + 1, i, h => by
    have hc := Nv.cntLt_le l m
    have hg := (Nv.cntLt_get l m i (by omega) (by omega)).2 (by omega)
    have hs : S26 gL (l, m, o, (i : Int), ()) = some (.inl (l, m, o, ((i + 1 : Nat) : Int), ())) := by
      rw [S26_eq, decide_eq_true (show (i : Int) < (l.length : Int) by omega), inR (by omega), cond_true, cond_true, Int.toNat_natCast, decide_eq_true hg, cond_true, w64_small (by omega) (by omega)]; rfl
    rw [lim_next hs]
    exact with_loop l m o hl n (i + 1) (by omega)
theorem with_eq (l : List Int) (n : Int) (hl : l.length ≤ 100000000) : evalO Tryz.prog tt (callI [9] gL) [with0] [] 40 [Sl.row 0 tI, Sl.val 1 tI] rL (l, n, ()) = some (Nv.withP l n, ()) := by
  rw [e26_eq]
  have hd : gL.dInn l = true := short_iff.2 (show l.length ≤ 1000000000 by omega)
  rw [hd, cond_true]
  show (bif Nv.inB l n then _ else _) = _
  unfold Nv.withP
  cases hb : Nv.inB l n with
  | true => rw [cond_true, if_pos rfl]
  | false =>
    rw [cond_false, if_neg (by simp)]
    have h := with_loop l n [] (by omega) (Nv.cntLt l n) 0 (by omega)
    have h' : lim (S26 gL) (l, n, [], 0, ()) = _ := h
    rw [h']
    have hc := Nv.cntLt_le l n
    simp only
    have e1 : (decide (0 ≤ (Nv.cntLt l n : Int)) && decide ((Nv.cntLt l n : Int) ≤ (l.length : Int))) = true := by simp; omega
    have hlt : ((l.drop 0).take (Nv.cntLt l n)).length = Nv.cntLt l n := by simp; omega
    rw [e1, cond_true, Int.toNat_natCast, Nat.add_zero, List.nil_append, app_ok (by omega), app_ok (by rw [List.length_append, hlt]; simp only [List.length_cons, List.length_nil]; omega), cond_true,
      app_ok (by rw [List.length_append, List.length_append, hlt, List.length_drop]; simp only [List.length_cons, List.length_nil]; omega), List.drop_zero, Nv.ins_eq]
theorem fnWith : FnO Tryz.prog 40 [Sl.row 0 tI, Sl.val 1 tI] rL fun x => bif short 100000000 x.1 then some (Nv.withP x.1 x.2.1, ()) else none := evalO_ok tt_ok mixed names fun x y h => by
  obtain ⟨l, n, ⟨⟩⟩ := x
  change (bif short 100000000 l then some (Nv.withP l n, ()) else none) = some y at h
  cases hb : short 100000000 l with
  | false => rw [hb] at h; cases h
  | true =>
    rw [hb] at h
    exact ⟨_, _, _, callI25_ok gL rfl rfl, (with_eq l n (short_iff.1 hb)).trans h⟩
/-! ### Common -/
theorem callI2_ok (R : Type) : CallsOK Tryz.prog (callI [9, 40] gL R) := callsE_ok tt_ok mixed names (fun f s hs => by
  simp only [hasN] at hs
  by_cases hf : f = 9
  · subst hf
    change some (specD sLN [.val .bool] (fun x => short big9 x.1) fun x => (Nv.inB x.1 x.2.1, ())) = some s at hs
    cases hs; exact specD_ok fnIn flat_bool (cntN 9 (by kernel_rfl))
  · by_cases hf2 : f = 40
    · subst hf2
      change some (specO [Sl.row 0 tI, Sl.val 1 tI] rL fun x => bif short 100000000 x.1 then some (Nv.withP x.1 x.2.1, ()) else none) = some s at hs
      cases hs; exact specO_ok fnWith (cntN 40 (by kernel_rfl))
    · rw [beq_ne hf, beq_ne hf2] at hs; cases hs) 20
theorem comR_loop (a b : List Int) (ha : a.length ≤ 10000000) (hb : b.length ≤ 1000000000) : ∀ (n i : Nat) (o : List Int), i + n = a.length → o.length ≤ i → lim (S17 gL) (a, b, o, (i : Int), ()) = some (.inl (Nv.comR b (a.drop i) o, ()))
  | 0, i, o, h, _ => by
    refine lim_end ?_
    rw [S17_eq, decide_eq_false (show ¬ (i : Int) < (a.length : Int) by omega), cond_false, List.drop_eq_nil_of_le (by omega)]; rfl
  | n + 1, i, o, h, ho => by
    have hd : gL.dInn b = true := short_iff.2 (show b.length ≤ 1000000000 by omega)
    have e1 : decide ((i : Int) < (a.length : Int)) = true := decide_eq_true (by omega)
    have hw : gL.dWth o = true := short_iff.2 (show o.length ≤ 100000000 by omega)
    rw [drop_cons (show i < a.length by omega), Nv.comR]
    cases hm : Nv.inB b (a.getD i 0) with
    | true =>
      have hs : S17 gL (a, b, o, (i : Int), ()) = some (.inl (a, b, Nv.withP o (a.getD i 0), ((i + 1 : Nat) : Int), ())) := by
        rw [S17_eq, e1, inR (by omega), hd, hw, cond_true, cond_true, cond_true, cond_true, cond_true, Int.toNat_natCast, show gL.inn b (a.getD i 0) = true from hm, cond_true, w64_small (by omega) (by omega)]; rfl
      have := Nv.withP_len o (a.getD i 0)
      rw [lim_next hs, if_pos rfl]
      exact comR_loop a b ha hb n (i + 1) _ (by omega) (by omega)
    | false =>
      have hs : S17 gL (a, b, o, (i : Int), ()) = some (.inl (a, b, o, ((i + 1 : Nat) : Int), ())) := by
        rw [S17_eq, e1, inR (by omega), hd, cond_true, cond_true, cond_true, Int.toNat_natCast, show gL.inn b (a.getD i 0) = false from hm, cond_false, w64_small (by omega) (by omega)]; rfl
      rw [lim_next hs, if_neg (by simp)]
      exact comR_loop a b ha hb n (i + 1) _ (by omega) (by omega)
theorem com17_eq (a b : List Int) (ha : a.length ≤ 10000000) (hb : b.length ≤ 1000000000) : evalT Tryz.prog tt (callI [9, 40] gL) [com0] [] 21 sLL rL (a, b, ()) = some (Nv.common a b, ()) := by
  rw [e17l_eq]
  have h := comR_loop a b ha hb a.length 0 [] (by omega) (by simp)
  rw [List.drop_zero] at h
  have h' : lim (S17 gL) (a, b, [], 0, ()) = _ := h
  rw [h']; rfl
def wfL (l : List Int) : Bool := l.all wfI
theorem wfL_get {l : List Int} (h : wfL l = true) {i : Nat} (hi : i < l.length) : wfI (l.getD i 0) = true := by
  have : l.getD i 0 = l[i] := by simp [List.getD, hi]
  rw [this]
  exact List.all_eq_true.1 h _ (List.getElem_mem hi)
def dCom (a b : List Int) : Bool := short 10000000 a && short 10000000 b && wfL a && wfL b
theorem dCom_iff {a b : List Int} : dCom a b = true ↔ ((a.length ≤ 10000000 ∧ b.length ≤ 10000000) ∧ wfL a = true) ∧ wfL b = true := by
  simp only [dCom, Bool.and_eq_true, short_iff]
theorem fnCom17 : FnT Tryz.prog 21 sLL rL fun x => bif dCom x.1 x.2.1 then some (Nv.common x.1 x.2.1, ()) else none := domT fun x hx => by
  obtain ⟨a, b, ⟨⟩⟩ := x
  obtain ⟨⟨⟨h1, h2⟩, h3⟩, h4⟩ := dCom_iff.1 hx
  exact ⟨_, callI2_ok, _, _, com17_eq a b h1 (by show b.length ≤ _; have : b.length ≤ 10000000 := h2; omega)⟩
theorem callI22_ok (R : Type) : CallsOK Tryz.prog (callI [16] gL R) := callsE_ok tt_ok mixed names (fun f s hs => by
  simp only [hasN] at hs
  by_cases hf : f = 16
  · subst hf
    change some (specSort srt) = some s at hs
    cases hs; exact specSort_ok
  · rw [beq_ne hf] at hs; cases hs) 20
theorem put_loop (a b : List Int) (m2 : Mp) (ha : a.length ≤ 10000000) (hw : wfL a = true) : ∀ (n i : Nat) (m1 : Mp), i + n = a.length → lim (S160 gL) (b, m1, m2, a, (a.length : Int), (i : Int), ()) = some (.inl (b, Nv.putAll (a.drop i) m1, m2, ()))
  | 0, i, m1, h => by
    refine lim_end ?_
    rw [S160_eq, decide_eq_false (show ¬ (i : Int) < (a.length : Int) by omega), cond_false, List.drop_eq_nil_of_le (by omega)]; rfl
  | n + 1, i, m1, h => by
    have hs : S160 gL (b, m1, m2, a, (a.length : Int), (i : Int), ()) = some (.inl (b, putL (a.getD i 0) true m1, m2, a, (a.length : Int), ((i + 1 : Nat) : Int), ())) := by
      rw [S160_eq, decide_eq_true (show (i : Int) < (a.length : Int) by omega), inR (by omega), cond_true, cond_true, Int.toNat_natCast, wfL_get hw (by omega), cond_true, w64_small (by omega) (by omega)]; rfl
    rw [lim_next hs, drop_cons (show i < a.length by omega), Nv.putAll]
    exact put_loop a b m2 ha hw n (i + 1) _ (by omega)
theorem comM_loop (b : List Int) (m1 : Mp) (hb : b.length ≤ 10000000) (hw : wfL b = true) : ∀ (n i : Nat) (m2 : Mp), i + n = b.length → lim (S162 gL) (m1, m2, b, (b.length : Int), (i : Int), ()) = some (.inl (Nv.comM m1 (b.drop i) m2, ()))
  | 0, i, m2, h => by
    refine lim_end ?_
    rw [S162_eq, decide_eq_false (show ¬ (i : Int) < (b.length : Int) by omega), cond_false, List.drop_eq_nil_of_le (by omega)]; rfl
  | n + 1, i, m2, h => by
    have e1 : decide ((i : Int) < (b.length : Int)) = true := decide_eq_true (by omega)
    rw [drop_cons (show i < b.length by omega), Nv.comM]
    cases hm : getL (b.getD i 0) false m1 with
    | true =>
      have hs : S162 gL (m1, m2, b, (b.length : Int), (i : Int), ()) = some (.inl (m1, putL (b.getD i 0) true m2, b, (b.length : Int), ((i + 1 : Nat) : Int), ())) := by
        rw [S162_eq, e1, inR (by omega), cond_true, cond_true, Int.toNat_natCast, hm, cond_true, wfL_get hw (by omega), cond_true, w64_small (by omega) (by omega)]; rfl
      rw [lim_next hs, if_pos rfl]
      exact comM_loop b m1 hb hw n (i + 1) _ (by omega)
    | false =>
      have hs : S162 gL (m1, m2, b, (b.length : Int), (i : Int), ()) = some (.inl (m1, m2, b, (b.length : Int), ((i + 1 : Nat) : Int), ())) := by
        rw [S162_eq, e1, inR (by omega), cond_true, cond_true, Int.toNat_natCast, hm, cond_false, w64_small (by omega) (by omega)]; rfl
      rw [lim_next hs, if_neg (by simp)]
      exact comM_loop b m1 hb hw n (i + 1) _ (by omega)
theorem com16_eq (a b : List Int) (ha : a.length ≤ 10000000) (hb : b.length ≤ 10000000) (wa : wfL a = true) (wb : wfL b = true) : evalT Tryz.prog tt (callI [16] gL) [pom0, pom2] [] 39 sLL rL (a, b, ()) = some (Nv.common a b, ()) := by
  rw [e16l_eq]
  have h := put_loop a b [] ha wa a.length 0 [] (by omega)
  rw [List.drop_zero] at h
  have h' : lim (S160 gL) (b, [], [], a, (a.length : Int), 0, ()) = _ := h
  rw [h']
  have k := comM_loop b (Nv.putAll a []) hb wb b.length 0 [] (by omega)
  rw [List.drop_zero] at k
  have k' : lim (S162 gL) (Nv.putAll a [], [], b, (b.length : Int), 0, ()) = _ := k
  simp only
  rw [k']
  have hl := Nv.comM_len (Nv.putAll a []) b []
  simp only
  rw [decide_eq_true (show (Nv.comM (Nv.putAll a []) b []).length ≤ 1000000000 by simp only [List.length_nil] at hl; omega), cond_true, ← Nv.common_eq]; rfl
theorem fnCom16 : FnT Tryz.prog 39 sLL rL fun x => bif dCom x.1 x.2.1 then some (Nv.common x.1 x.2.1, ()) else none := domT fun x hx => by
  obtain ⟨a, b, ⟨⟩⟩ := x
  obtain ⟨⟨⟨h1, h2⟩, h3⟩, h4⟩ := dCom_iff.1 hx
  exact ⟨_, callI22_ok, _, _, com16_eq a b h1 h2 h3 h4⟩
/-! ### Words -/
/-! ### Ints, words -/
def dInts (a b : List Int) : Bool := decide (a = b) && short big9 a
theorem ints_loop (l : List Int) (hl : l.length ≤ 1000000000) : ∀ (n i : Nat), i + n = l.length → lim S15 (l, l, (i : Int), ()) = some (.inl ())
  | 0, i, h => by
    refine lim_end ?_
    rw [S15_eq, decide_eq_false (show ¬ (i : Int) < (l.length : Int) by omega), cond_false]
  | n + 1, i, h => by
    have hs : S15 (l, l, (i : Int), ()) = some (.inl (l, l, ((i + 1 : Nat) : Int), ())) := by
      rw [S15_eq, decide_eq_true (show (i : Int) < (l.length : Int) by omega), inR (by omega), cond_true, cond_true, cond_true, show (l.getD (i : Int).toNat 0 != l.getD (i : Int).toNat 0) = false by simp, cond_false, w64_small (by omega) (by omega)]; rfl
    rw [lim_next hs]
    exact ints_loop l hl n (i + 1) (by omega)
theorem ints_self (l : List Int) (hl : l.length ≤ 1000000000) : evalF Tryz.prog tt call0 [loop15] 31 sLL [.val .bool] (l, l, ()) = some (true, ()) := by
  rw [e15l_eq]
  have h : lim S15 (l, l, 0, ()) = _ := ints_loop l hl l.length 0 (by omega)
  rw [h, show ((l.length : Int) != (l.length : Int)) = false by simp, cond_false]
theorem fnInts : FnOK Tryz.prog 31 sLL [.val .bool] fun x => bif dInts x.1 x.2.1 then some (true, ()) else none := fnDom fun x hx => by
  obtain ⟨a, b, ⟨⟩⟩ := x
  simp only [dInts, Bool.and_eq_true, decide_eq_true_eq] at hx
  obtain ⟨rfl, h2⟩ := hx
  exact ⟨_, call0_ok, _, ints_self a (short_iff.1 h2)⟩
def dSameW (a b : List Int) : Bool := decide (a = b) && short big9 a
theorem fnSameW : FnOK Tryz.prog 13 [.val tWs, .val tWs] [.val .bool] fun x => bif dSameW x.1 x.2.1 then some (true, ()) else none := fn14.of fun x y h => by
  obtain ⟨a, b, ⟨⟩⟩ := x
  change (bif dSameW a b then some (true, ()) else none) = some y at h
  cases hb : dSameW a b with
  | false => rw [hb] at h; cases h
  | true =>
    rw [hb] at h
    simp only [dSameW, Bool.and_eq_true, decide_eq_true_eq] at hb
    obtain ⟨rfl, h2⟩ := hb
    exact (same_self a (short_iff.1 h2)).trans h
end Go.Pv.Ef
/-! ### The effect of a segment, on plain data. -/
namespace Go.Nv
open Go.Pv (putL getL)
/-- Reads, Writes, Steps, Outs, Next -/
abbrev Eff := List Int × List Int × Int × Int × List Int
/-- mode, list, effect -/
abbrev ESt := Int × List Int × Eff
def eff0 : Eff := ([], [], 0, 0, [])
def est0 : ESt := (0, [], eff0)
def spR (k : Int) : Int := if k = 1 then 2 else if k = 2 then 6 else if k = 31 then 18 else if k = 32 then 18 else 0
def spW (k : Int) : Int := if k = 3 then 2 else if k = 4 then 6 else 0
def popE (l : List Int) (m : Int) : List Int × Int := if m = 0 then (l, 0) else if l.length = 0 then (l, 14) else if l.getD (l.length - 1) 0 ≠ m then (l, 6) else (l.take (l.length - 1), 0)
def outM (i : Ins) (m : Int) : Int := if (form i.1).2.2.2.1 ≠ 0 then (form i.1).2.2.2.1 else m
def finE (i : Ins) (x : ESt) : ESt × Int :=
  if i.1 = 33 ∨ i.1 = 34 ∨ i.1 = 35 then (if x.2.2.2.2.2.1 ≥ 8 then (est0, 13) else ((outM i x.1, x.2.1, x.2.2.1, x.2.2.2.1, x.2.2.2.2.1, x.2.2.2.2.2.1 + 1, x.2.2.2.2.2.2), 0)) else ((outM i x.1, x.2), 0)
def modesE (i : Ins) (x : ESt) : ESt × Int :=
  if ((form i.1).1 ≠ 0 ∧ (form i.1).1 ≠ x.1) ∨ (i.1 = 7 ∧ x.1 = 0) then (est0, 6) else
  if (popE x.2.1 (form i.1).2.1).2 ≠ 0 then (est0, (popE x.2.1 (form i.1).2.1).2) else
  if (popE (popE x.2.1 (form i.1).2.1).1 (form i.1).2.2.1).2 ≠ 0 then (est0, (popE (popE x.2.1 (form i.1).2.1).1 (form i.1).2.2.1).2) else
  if i.1 = 7 then (if need (popE (popE x.2.1 (form i.1).2.1).1 (form i.1).2.2.1).1 + size x.1 > 18 then (est0, 13) else finE i (x.1, (popE (popE x.2.1 (form i.1).2.1).1 (form i.1).2.2.1).1 ++ [x.1], x.2.2))
  else finE i (x.1, (popE (popE x.2.1 (form i.1).2.1).1 (form i.1).2.2.1).1, x.2.2)
/-- the words from a + k on, n of them, that were not written -/
def addR (W : List Int) (a : Int) : Nat → Int → List Int → List Int
  | 0, _, R => R
  | n + 1, k, R => addR W a n (k + 1) (if inB W (a + k) = true then R else withP R (a + k))
def addW (a : Int) : Nat → Int → List Int → List Int
  | 0, _, W => W
  | n + 1, k, W => addW a n (k + 1) (withP W (a + k))
def stepE (i : Ins) (x : ESt) : ESt × Int :=
  if spR i.1 + spW i.1 > 0 ∧ i.2.1 + spR i.1 + spW i.1 - 1 > 2047 then (est0, 3) else
  if (modesE i x).2 ≠ 0 then (est0, (modesE i x).2) else
  (((modesE i x).1.1, (modesE i x).1.2.1, addR x.2.2.2.1 i.2.1 (spR i.1).toNat 0 x.2.2.1, addW i.2.1 (spW i.1).toNat 0 x.2.2.2.1, x.2.2.2.2.1 + 1, (modesE i x).1.2.2.2.2.2), 0)
def nextE (i : Ins) (f : Eff) : Eff := (f.1, f.2.1, f.2.2.1, f.2.2.2.1, if i.1 = 36 then [i.2.1] else if i.1 = 37 then [i.2.1, i.2.2.1] else f.2.2.2.2)
/-- effect, number, error -/
def ofE (dec : List Int → Int → Ins × Int × Int) (code : List Int) : Nat → ESt → Int → Eff × Int × Int
  | 0, _, _ => (eff0, (code.length : Int), 9)
  | n + 1, x, at_ => if at_ < (code.length : Int) then
      (if (dec code at_).2.2 ≠ 0 then (eff0, at_, (dec code at_).2.2) else
       if (stepE (dec code at_).1 x).2 ≠ 0 then (eff0, at_, (stepE (dec code at_).1 x).2) else
       if (dec code at_).1.1 = 36 ∨ (dec code at_).1.1 = 37 ∨ (dec code at_).1.1 = 38 then
         (if (dec code at_).2.1 < (code.length : Int) then (eff0, (dec code at_).2.1, 5) else (nextE (dec code at_).1 (stepE (dec code at_).1 x).1.2.2, 0, 0))
       else ofE dec code n (stepE (dec code at_).1 x).1 (dec code at_).2.1) else (eff0, (code.length : Int), 9)
def ofP (dec : List Int → Int → Ins × Int × Int) (code : List Int) : Eff × Int × Int := if (code.length : Int) > 1024 then (eff0, 0, 4) else ofE dec code (code.length + 1) est0 0
def safeP (f : Eff) : Bool := (common f.1 f.2.1).length == 0
def checkP (dec : List Int → Int → Ins × Int × Int) (code : List Int) : Int := if (ofP dec code).2.2 = 0 ∧ safeP (ofP dec code).1 = false then 15 else (ofP dec code).2.2
/-! ### Pops, pushes -/
theorem need_append (l r : List Int) : need (l ++ r) = need l + need r := by
  induction l with
  | nil => simp [need]
  | cons x l ih => simp only [List.cons_append, need, ih]; omega
theorem size_ge (m : Int) : 1 ≤ size m ∧ size m ≤ 3 := by unfold size; split <;> omega
theorem need_ge : ∀ l : List Int, (l.length : Int) ≤ need l ∧ need l ≤ 3 * (l.length : Int)
  | [] => by simp [need]
  | x :: r => by
    have := need_ge r
    have := size_ge x
    simp only [need, List.length_cons]; omega
theorem take_last {l : List Int} (h : l.length ≠ 0) : l.take (l.length - 1) ++ [l.getD (l.length - 1) 0] = l := by
  have h1 : l.getD (l.length - 1) 0 = l[l.length - 1] := by simp [List.getD, show l.length - 1 < l.length by omega]
  rw [h1, List.take_append_getElem (by omega)]
  exact List.take_of_length_le (by omega)
theorem popE_len (l : List Int) (m : Int) : (popE l m).1.length ≤ l.length := by
  unfold popE; split
  · exact Nat.le_refl _
  · split
    · exact Nat.le_refl _
    · split
      · exact Nat.le_refl _
      · simp only [List.length_take]; omega
theorem popE_need {l : List Int} {m : Int} : need (popE l m).1 ≤ need l := by
  unfold popE; split
  · exact Int.le_refl _
  · split
    · exact Int.le_refl _
    · split
      · exact Int.le_refl _
      · rename_i h0 _
        have e := congrArg need (take_last h0)
        rw [need_append] at e
        simp only [need] at e
        have := size_ge (l.getD (l.length - 1) 0)
        simp only; omega
/-! ### Maps and lists -/
structure IsSet (m : List (Int × Bool)) (l : List Int) : Prop where
  nodup : (keys m).Nodup
  all : AllT m
  asc : l.Pairwise (· < ·)
  mem : ∀ x, x ∈ keys m ↔ x ∈ l
theorem IsSet.nil : IsSet [] [] := ⟨by simp [keys], fun p hp => by simp at hp, List.Pairwise.nil, fun x => by simp [keys]⟩
theorem IsSet.put {m : List (Int × Bool)} {l : List Int} (h : IsSet m l) (n : Int) : IsSet (putL n true m) (withP l n) :=
  ⟨nodup_put h.nodup, allT_put h.all, withP_sorted n h.asc, fun x => by rw [mem_keys_put, mem_withP, h.mem]⟩
theorem IsSet.get {m : List (Int × Bool)} {l : List Int} (h : IsSet m l) (n : Int) : getL n false m = inB l n := by
  unfold inB
  by_cases hn : n ∈ l
  · rw [decide_eq_true hn]; exact (get_iff h.all).2 ((h.mem n).2 hn)
  · rw [decide_eq_false hn]
    cases hg : getL n false m with
    | false => rfl
    | true => exact absurd ((h.mem n).1 ((get_iff h.all).1 hg)) hn
theorem IsSet.srt {m : List (Int × Bool)} {l : List Int} (h : IsSet m l) : srt (keys m) = l := srt_unique h.nodup h.asc h.mem
theorem IsSet.len {m : List (Int × Bool)} {l : List Int} (h : IsSet m l) : m.length = l.length := by
  have h1 : (Nv.srt (keys m)).length = (keys m).length := (srt_perm _).length_eq
  rw [h.srt] at h1
  simp only [keys, List.length_map] at h1
  exact h1.symm
/-! ### What is read, what is written -/
theorem addR_mem {W : List Int} {a x : Int} : ∀ (n : Nat) (k : Int) (R : List Int), x ∈ addR W a n k R ↔ x ∈ R ∨ (a + k ≤ x ∧ x < a + k + n ∧ x ∉ W)
  | 0, k, R => by
    simp only [addR]
    constructor
    · exact .inl
    · rintro (h | ⟨h1, h2, _⟩)
      · exact h
      · omega
  | n + 1, k, R => by
    simp only [addR]
    rw [addR_mem n (k + 1)]
    by_cases hw : a + k ∈ W
    · rw [if_pos (show inB W (a + k) = true from decide_eq_true hw)]
      constructor
      · rintro (h | ⟨h1, h2, h3⟩)
        · exact .inl h
        · exact .inr ⟨by omega, by omega, h3⟩
      · rintro (h | ⟨h1, h2, h3⟩)
        · exact .inl h
        · refine .inr ⟨?_, by omega, h3⟩
          by_cases e : x = a + k
          · subst e; exact absurd hw h3
          · omega
    · have hno : ¬ inB W (a + k) = true := by unfold inB; simpa using hw
      rw [if_neg hno, mem_withP]
      constructor
      · rintro ((rfl | h) | ⟨h1, h2, h3⟩)
        · exact .inr ⟨by omega, by omega, hw⟩
        · exact .inl h
        · exact .inr ⟨by omega, by omega, h3⟩
      · rintro (h | ⟨h1, h2, h3⟩)
        · exact .inl (.inr h)
        · by_cases e : x = a + k
          · exact .inl (.inl e)
          · exact .inr ⟨by omega, by omega, h3⟩
theorem addW_mem {a x : Int} : ∀ (n : Nat) (k : Int) (W : List Int), x ∈ addW a n k W ↔ x ∈ W ∨ (a + k ≤ x ∧ x < a + k + n)
  | 0, k, W => by
    simp only [addW]
    constructor
    · exact .inl
    · rintro (h | ⟨h1, h2⟩)
      · exact h
      · omega
  | n + 1, k, W => by
    simp only [addW]
    rw [addW_mem n (k + 1), mem_withP]
    constructor
    · rintro ((rfl | h) | ⟨h1, h2⟩)
      · exact .inr ⟨by omega, by omega⟩
      · exact .inl h
      · exact .inr ⟨by omega, by omega⟩
    · rintro (h | ⟨h1, h2⟩)
      · exact .inl (.inr h)
      · by_cases e : x = a + k
        · exact .inl (.inl e)
        · exact .inr ⟨by omega, by omega⟩
theorem addR_len (W : List Int) (a : Int) : ∀ (n : Nat) (k : Int) (R : List Int), (addR W a n k R).length ≤ R.length + n
  | 0, _, _ => Nat.le_refl _
  | n + 1, k, R => by
    simp only [addR]
    have h2 := withP_len R (a + k)
    split
    · have := addR_len W a n (k + 1) R; omega
    · have := addR_len W a n (k + 1) (withP R (a + k)); omega
theorem addW_len (a : Int) : ∀ (n : Nat) (k : Int) (W : List Int), (addW a n k W).length ≤ W.length + n
  | 0, _, _ => Nat.le_refl _
  | n + 1, k, W => by
    simp only [addW]
    have := addW_len a n (k + 1) (withP W (a + k))
    have h2 := withP_len W (a + k)
    omega
theorem addR_sorted (W : List Int) (a : Int) : ∀ (n : Nat) (k : Int) (R : List Int), R.Pairwise (· < ·) → (addR W a n k R).Pairwise (· < ·)
  | 0, _, _, h => h
  | n + 1, k, R, h => by
    simp only [addR]
    refine addR_sorted W a n (k + 1) _ ?_
    split
    · exact h
    · exact withP_sorted _ h
theorem addW_sorted (a : Int) : ∀ (n : Nat) (k : Int) (W : List Int), W.Pairwise (· < ·) → (addW a n k W).Pairwise (· < ·)
  | 0, _, _, h => h
  | n + 1, k, W, h => by
    simp only [addW]
    exact addW_sorted a n (k + 1) _ (withP_sorted _ h)
theorem sp_le (k : Int) : 0 ≤ spR k ∧ spR k ≤ 18 ∧ 0 ≤ spW k ∧ spW k ≤ 6 := by
  unfold spR spW
  refine ⟨?_, ?_, ?_, ?_⟩ <;> (repeat' split) <;> omega
/-! ### What holds before each instruction -/
structure Good (c : Nat) (x : ESt) : Prop where
  mode : 0 ≤ x.1 ∧ x.1 ≤ 2
  list : need x.2.1 ≤ 18
  outs : 0 ≤ x.2.2.2.2.2.1 ∧ x.2.2.2.2.2.1 ≤ 8
  steps : x.2.2.2.2.1 = (c : Int)
  rlen : x.2.2.1.length ≤ 18 * c
  wlen : x.2.2.2.1.length ≤ 6 * c
  rin : ∀ y ∈ x.2.2.1, 0 ≤ y ∧ y ≤ 2047
  win : ∀ y ∈ x.2.2.2.1, 0 ≤ y ∧ y ≤ 2047
  rasc : x.2.2.1.Pairwise (· < ·)
  wasc : x.2.2.2.1.Pairwise (· < ·)
  next : x.2.2.2.2.2.2 = []
theorem Good.len {c : Nat} {x : ESt} (h : Good c x) : x.2.1.length ≤ 18 := by have := need_ge x.2.1; have := h.list; omega
theorem Good.start : Good 0 est0 := ⟨⟨by decide, by decide⟩, by decide, ⟨by decide, by decide⟩, rfl, Nat.zero_le _, Nat.zero_le _, (fun y hy => (List.not_mem_nil hy).elim), (fun y hy => (List.not_mem_nil hy).elim), List.Pairwise.nil, List.Pairwise.nil, rfl⟩
theorem finE_keeps {i : Ins} {x : ESt} (h : (finE i x).2 = 0) : (finE i x).1.2.1 = x.2.1 ∧ (finE i x).1.2.2.1 = x.2.2.1 ∧ (finE i x).1.2.2.2.1 = x.2.2.2.1 ∧ (finE i x).1.2.2.2.2.1 = x.2.2.2.2.1 ∧ (finE i x).1.2.2.2.2.2.2 = x.2.2.2.2.2.2 ∧
    (finE i x).1.1 = outM i x.1 ∧ (0 ≤ x.2.2.2.2.2.1 → x.2.2.2.2.2.1 ≤ 8 → 0 ≤ (finE i x).1.2.2.2.2.2.1 ∧ (finE i x).1.2.2.2.2.2.1 ≤ 8) := by
  unfold finE at h ⊢
  split
  · rename_i h1
    rw [if_pos h1] at h
    split
    · rename_i h2
      rw [if_pos h2] at h; simp at h
    · exact ⟨rfl, rfl, rfl, rfl, rfl, rfl, fun a b => ⟨by simp only; omega, by simp only; omega⟩⟩
  · exact ⟨rfl, rfl, rfl, rfl, rfl, rfl, fun a b => ⟨a, b⟩⟩
structure Kept (i : Ins) (x z : ESt) : Prop where
  list : need z.2.1 ≤ 18
  reads : z.2.2.1 = x.2.2.1
  writes : z.2.2.2.1 = x.2.2.2.1
  steps : z.2.2.2.2.1 = x.2.2.2.2.1
  next : z.2.2.2.2.2.2 = x.2.2.2.2.2.2
  mode : z.1 = outM i x.1
  outs : 0 ≤ z.2.2.2.2.2.1 ∧ z.2.2.2.2.2.1 ≤ 8
theorem modesE_keeps {i : Ins} {x : ESt} {c : Nat} (hx : Good c x) (h : (modesE i x).2 = 0) : Kept i x (modesE i x).1 := by
  unfold modesE at h ⊢
  split
  · rename_i c1; rw [if_pos c1] at h; simp at h
  rename_i c1
  rw [if_neg c1] at h
  split
  · rename_i c2; rw [if_pos c2] at h; exact absurd h c2
  rename_i c2
  rw [if_neg c2] at h
  split
  · rename_i c3; rw [if_pos c3] at h; exact absurd h c3
  rename_i c3
  rw [if_neg c3] at h
  have n1 : need (popE (popE x.2.1 (form i.1).2.1).1 (form i.1).2.2.1).1 ≤ 18 := by
    have a := popE_need (l := (popE x.2.1 (form i.1).2.1).1) (m := (form i.1).2.2.1)
    have b := popE_need (l := x.2.1) (m := (form i.1).2.1)
    have := hx.list; omega
  generalize (popE (popE x.2.1 (form i.1).2.1).1 (form i.1).2.2.1).1 = L at *
  split
  · rename_i c4
    rw [if_pos c4] at h
    split
    · rename_i c5; rw [if_pos c5] at h; simp at h
    · rename_i c5
      rw [if_neg c5] at h
      obtain ⟨k1, k2, k3, k4, k5, k6, k7⟩ := finE_keeps h
      exact ⟨by rw [k1]; simp only [need_append, need]; omega, k2, k3, k4, k5, k6, k7 hx.outs.1 hx.outs.2⟩
  · rename_i c4
    rw [if_neg c4] at h
    obtain ⟨k1, k2, k3, k4, k5, k6, k7⟩ := finE_keeps h
    exact ⟨by rw [k1]; exact n1, k2, k3, k4, k5, k6, k7 hx.outs.1 hx.outs.2⟩
theorem stepE_good {i : Ins} {x : ESt} {c : Nat} (hx : Good c x) (hi : (form i.1).2.2.2.1 ≤ 2 ∧ 0 ≤ (form i.1).2.2.2.1) (ha : spR i.1 + spW i.1 > 0 → 0 ≤ i.2.1) (h : (stepE i x).2 = 0) : Good (c + 1) (stepE i x).1 := by
  unfold stepE at h ⊢
  split
  · rename_i c1; rw [if_pos c1] at h; simp at h
  rename_i c1
  rw [if_neg c1] at h
  split
  · rename_i c2; rw [if_pos c2] at h; exact absurd h c2
  rename_i c2
  have k := modesE_keeps hx (by simpa using c2)
  have sp := sp_le i.1
  have b1 := addR_len x.2.2.2.1 i.2.1 (spR i.1).toNat 0 x.2.2.1
  have b2 := addW_len i.2.1 (spW i.1).toNat 0 x.2.2.2.1
  refine ⟨?_, k.list, k.outs, ?_, ?_, ?_, fun y hy => ?_, fun y hy => ?_, addR_sorted _ _ _ _ _ hx.rasc, addW_sorted _ _ _ _ hx.wasc, ?_⟩
  · show 0 ≤ (modesE i x).1.1 ∧ (modesE i x).1.1 ≤ 2
    rw [k.mode]; unfold outM
    have := hx.mode
    split <;> omega
  · show x.2.2.2.2.1 + 1 = _
    rw [hx.steps]; omega
  · have := hx.rlen; simp only; omega
  · have := hx.wlen; simp only; omega
  · simp only at hy
    rcases (addR_mem _ _ _).1 hy with hy | ⟨h1, h2, _⟩
    · exact hx.rin y hy
    · have := ha (by omega); omega
  · simp only at hy
    rcases (addW_mem _ _ _).1 hy with hy | ⟨h1, h2⟩
    · exact hx.win y hy
    · have := ha (by omega); omega
  · show (modesE i x).1.2.2.2.2.2.2 = []
    rw [k.next, hx.next]
end Go.Nv
/-! ### The program's walk computes the plain effect: modes, step, Of. -/
namespace Go.Pv.Ef
open Go.Proofs
set_option maxRecDepth 1000000
/-- an answer: the error, and a state if there is none -/
def Ans {α : Type} (R : α → Nv.ESt → Prop) (o : Option (α × Int × Unit)) (r : Nv.ESt × Int) : Prop := ∃ z, o = some (z, r.2, ()) ∧ (r.2 = 0 → R z r.1)
theorem Ans.err {α : Type} {R : α → Nv.ESt → Prop} {z : α} {x : Nv.ESt} {e : Int} (h : e ≠ 0) : Ans R (some (z, e, ())) (x, e) := ⟨z, rfl, fun h' => absurd h' h⟩
theorem Ans.ok {α : Type} {R : α → Nv.ESt → Prop} {z : α} {x : Nv.ESt} (h : R z x) : Ans R (some (z, 0, ())) (x, 0) := ⟨z, rfl, fun _ => h⟩
def walkOf (x : Nv.ESt) (m1 m2 : Mp) : WSt := (x.1, x.2.1, Nv.need x.2.1, m1, m2, [], [], x.2.2.2.2.1, x.2.2.2.2.2.1, x.2.2.2.2.2.2)
def Walks (p : WSt) (x : Nv.ESt) : Prop := ∃ m1 m2, Nv.IsSet m1 x.2.2.1 ∧ Nv.IsSet m2 x.2.2.2.1 ∧ p = walkOf x m1 m2
theorem szQ_eq {α : Type} (m : Int) (k : Int → α) : szQ m k = k (Nv.size m) := by
  unfold szQ Nv.size
  rw [bif_eq]
  split <;> rfl
theorem endQ_eq (f : Nv.Form) (i : Ins) (x : WSt) : endQ f i x = if i.1 = 33 ∨ i.1 = 34 ∨ i.1 = 35 then outsQ f x true else outsQ f x false := by
  unfold endQ
  rw [bif_eq, bif_eq]
  by_cases h1 : i.1 = 33
  · rw [if_pos h1, if_pos (.inl h1)]
  rw [if_neg h1]
  by_cases h2 : i.1 = 34
  · rw [if_pos h2, if_pos (.inr (.inl h2))]
  rw [if_neg h2]
  by_cases h3 : i.1 = 35
  · rw [if_pos (.inr (.inr h3)), show (i.1 == 35) = true by simpa using h3]
  · have hno : ¬ (i.1 = 33 ∨ i.1 = 34 ∨ i.1 = 35) := by omega
    rw [if_neg hno, beq_eq_false_iff_ne.2 h3]
theorem setM_eq (f : Nv.Form) (x : WSt) : setM f x = retW ((if f.2.2.2.1 ≠ 0 then f.2.2.2.1 else x.1), x.2) 0 := by
  unfold setM
  by_cases h : f.2.2.2.1 = 0
  · rw [show (f.2.2.2.1 != 0) = false by simp [h], cond_false, if_neg (fun h' => h' h)]
  · rw [show (f.2.2.2.1 != 0) = true by simpa using h, cond_true, if_pos h]
theorem endQ_ok {f : Nv.Form} {i : Ins} {x : Nv.ESt} {p : WSt} (hf : Nv.form i.1 = f) (ho : 0 ≤ x.2.2.2.2.2.1 ∧ x.2.2.2.2.2.1 ≤ 8) (hw : Walks p x) : Ans Walks (endQ f i p) (Nv.finE i x) := by
  obtain ⟨m1, m2, s1, s2, rfl⟩ := hw
  rw [endQ_eq]
  unfold Nv.finE
  by_cases h : i.1 = 33 ∨ i.1 = 34 ∨ i.1 = 35
  · rw [if_pos h, if_pos h]
    unfold outsQ
    rw [cond_true]
    show Ans Walks (bif decide (x.2.2.2.2.2.1 ≥ 8) then _ else _) _
    by_cases h2 : x.2.2.2.2.2.1 ≥ 8
    · rw [decide_eq_true h2, cond_true, if_pos h2]; exact Ans.err (by omega)
    · rw [decide_eq_false h2, cond_false, if_neg h2, setM_eq]
      have e : w64 (x.2.2.2.2.2.1 + 1) = x.2.2.2.2.2.1 + 1 := w64_small (by omega) (by omega)
      show Ans Walks (retW (_, (setOuts (walkOf x m1 m2) (w64 (x.2.2.2.2.2.1 + 1))).2) 0) _
      rw [e]
      refine Ans.ok ⟨m1, m2, s1, s2, ?_⟩
      unfold Nv.outM; rw [hf]; rfl
  · rw [if_neg h, if_neg h]
    unfold outsQ
    rw [cond_false, setM_eq]
    refine Ans.ok ⟨m1, m2, s1, s2, ?_⟩
    unfold Nv.outM; rw [hf]; rfl
/-! ### Pops -/
def CutO (x : WSt) (o : Option Nat) : Prop := ∀ h, o = some h → h ≤ x.2.1.length
theorem lenOf_cut {x : WSt} {o : Option Nat} (h : CutO x o) : lenOf x.2.1 0 o = (cut x.2.1 0 o).length := by
  cases o with
  | none => simp [lenOf, cut]
  | some n => have := h n rfl; simp only [lenOf, cut, List.drop_zero, List.length_take]; omega
theorem getD_cut {x : WSt} {o : Option Nat} {j : Nat} (hj : j < (cut x.2.1 0 o).length) : x.2.1.getD j 0 = (cut x.2.1 0 o).getD j 0 := by
  cases o with
  | none => simp [cut]
  | some n =>
    simp only [cut, List.drop_zero, List.length_take] at hj ⊢
    simp only [List.getD, List.getElem?_take]
    rw [if_pos (by omega)]
theorem cut_cut {x : WSt} {o : Option Nat} (h : CutO x o) {n : Nat} (hn : n ≤ (cut x.2.1 0 o).length) : cut x.2.1 0 (some n) = (cut x.2.1 0 o).take n ∧ CutO x (some n) := by
  have hl : (cut x.2.1 0 o).length ≤ x.2.1.length := by
    cases o with
    | none => simp [cut]
    | some m => simp only [cut, List.drop_zero, List.length_take]; omega
  refine ⟨?_, fun k hk => by cases hk; omega⟩
  cases o with
  | none => simp [cut]
  | some m =>
    simp only [cut, List.drop_zero, List.length_take] at hn ⊢
    rw [List.take_take, Nat.min_eq_left (by omega)]
theorem popQ_ok {x : WSt} {o : Option Nat} {m : Int} {k : Option Nat → Int → OW} (hl : (cut x.2.1 0 o).length ≤ 1000) (hv : CutO x o) :
    ((Nv.popE (cut x.2.1 0 o) m).2 = 0 ∧ ∃ o', CutO x o' ∧ cut x.2.1 0 o' = (Nv.popE (cut x.2.1 0 o) m).1 ∧ popQ x o (Nv.need (cut x.2.1 0 o)) m k = k o' (Nv.need (Nv.popE (cut x.2.1 0 o) m).1)) ∨
    ((Nv.popE (cut x.2.1 0 o) m).2 ≠ 0 ∧ ∃ z, popQ x o (Nv.need (cut x.2.1 0 o)) m k = retW z (Nv.popE (cut x.2.1 0 o) m).2) := by
  have hlen := lenOf_cut hv
  have hget : ∀ j, j < (cut x.2.1 0 o).length → x.2.1.getD j 0 = (cut x.2.1 0 o).getD j 0 := fun j hj => getD_cut hj
  have hcut : ∀ n, n ≤ (cut x.2.1 0 o).length → _ := fun n hn => cut_cut hv hn
  unfold popQ
  rw [hlen]
  generalize hL : cut x.2.1 0 o = L at *
  unfold Nv.popE
  rw [bif_eq]
  by_cases m0 : m = 0
  · rw [if_pos m0, if_pos m0]
    left
    exact ⟨rfl, o, hv, hL, rfl⟩
  rw [if_neg m0, if_neg m0]
  by_cases l0 : L.length = 0
  · rw [if_pos l0]
    right
    refine ⟨by simp, ?_⟩
    rw [decide_eq_true (show w64 ((L.length : Int) - 1) < 0 by rw [w64_small (by omega) (by omega)]; omega), cond_true]
    exact ⟨_, rfl⟩
  rw [if_neg l0]
  have e1 : w64 ((L.length : Int) - 1) = ((L.length - 1 : Nat) : Int) := by rw [w64_small (by omega) (by omega)]; omega
  rw [e1, decide_eq_false (show ¬ ((L.length - 1 : Nat) : Int) < 0 by omega), cond_false, inR (by omega), cond_true, Int.toNat_natCast, hget _ (by omega)]
  by_cases hd : L.getD (L.length - 1) 0 = m
  · rw [show (L.getD (L.length - 1) 0 != m) = false by rw [hd]; simp, cond_false, if_neg (fun h => h hd),
      show (decide (0 ≤ ((L.length - 1 : Nat) : Int)) && decide (((L.length - 1 : Nat) : Int) ≤ (L.length : Int))) = true by simp, cond_true, szQ_eq]
    left
    obtain ⟨c1, c2⟩ := hcut (L.length - 1) (by omega)
    have e := congrArg Nv.need (Nv.take_last l0)
    rw [Nv.need_append, hd] at e
    simp only [Nv.need] at e
    have g1 := Nv.need_ge L
    have g2 := Nv.size_ge m
    refine ⟨rfl, _, c2, c1, ?_⟩
    rw [w64_small (by omega) (by omega)]
    congr 1
    simp only; omega
  · rw [show (L.getD (L.length - 1) 0 != m) = true by simpa using hd, cond_true, if_pos hd]
    right
    exact ⟨by simp, _, rfl⟩
/-! ### modes -/
theorem pushQ5_ok {f : Nv.Form} {i : Ins} {x : Nv.ESt} {p : WSt} (hf : Nv.form i.1 = f) (h1 : 1 ≤ i.1) (h2 : i.1 ≤ 38) (ho : 0 ≤ x.2.2.2.2.2.1 ∧ x.2.2.2.2.2.1 ≤ 8) (hn : Nv.need x.2.1 ≤ 18) (hw : Walks p x) :
    Ans Walks (pushQ5 f i p) (if i.1 = 7 then (if Nv.need x.2.1 + Nv.size x.1 > 18 then (Nv.est0, 13) else Nv.finE i (x.1, x.2.1 ++ [x.1], x.2.2)) else Nv.finE i x) := by
  have hp := (tbl h1 h2).push
  rw [hf] at hp
  have gn := Nv.need_ge x.2.1
  have gs := Nv.size_ge x.1
  unfold pushQ5
  by_cases h7 : i.1 = 7
  · obtain ⟨m1, m2, s1, s2, rfl⟩ := hw
    rw [hp.2 h7, cond_true, if_pos h7, szQ_eq]
    have e : w64 (Nv.need x.2.1 + Nv.size x.1) = Nv.need x.2.1 + Nv.size x.1 := w64_small (by omega) (by omega)
    show Ans Walks (bif decide (w64 (Nv.need x.2.1 + Nv.size x.1) > 18) then _ else app (x.2.1 ++ [x.1]) fun L => szQ x.1 fun s => endQ f i (x.1, L, w64 (Nv.need x.2.1 + s), (walkOf x m1 m2).2.2.2)) _
    rw [e]
    by_cases hb : Nv.need x.2.1 + Nv.size x.1 > 18
    · rw [decide_eq_true hb, cond_true, if_pos hb]; exact Ans.err (by omega)
    · rw [decide_eq_false hb, cond_false, if_neg hb, app_ok (by rw [List.length_append]; simp only [List.length_cons, List.length_nil]; omega), szQ_eq, e]
      refine endQ_ok hf ho ⟨m1, m2, s1, s2, ?_⟩
      unfold walkOf
      simp only [Nv.need_append, Nv.need, Int.add_zero]
  · have hpf : f.2.2.2.2 = false := by
      cases hx : f.2.2.2.2 with
      | false => rfl
      | true => exact absurd (hp.1 hx) h7
    rw [hpf, cond_false, if_neg h7]
    exact endQ_ok hf ho hw
theorem modesK_ok {f : Nv.Form} {i : Ins} {x : Nv.ESt} {p : WSt} {c : Nat} (hf : Nv.form i.1 = f) (h1 : 1 ≤ i.1) (h2 : i.1 ≤ 38) (hx : Nv.Good c x) (hw : Walks p x) : Ans Walks (modesK f i p) (Nv.modesE i x) := by
  have hp := (tbl h1 h2).push
  rw [hf] at hp
  obtain ⟨m1, m2, s1, s2, rfl⟩ := hw
  unfold modesK onlyQ
  rw [show (kn i.1 && decide (Nv.form i.1 = f)) = true by simp only [Bool.and_eq_true, decide_eq_true_eq]; exact ⟨kn_iff.2 ⟨h1, h2⟩, hf⟩, cond_true]
  unfold Nv.modesE
  rw [hf]
  have hlist : (walkOf x m1 m2).2.1 = x.2.1 := rfl
  -- behind the two tests
  have key : Ans Walks (bodyM f i (walkOf x m1 m2)) (if (Nv.popE x.2.1 f.2.1).2 ≠ 0 then (Nv.est0, (Nv.popE x.2.1 f.2.1).2) else
      if (Nv.popE (Nv.popE x.2.1 f.2.1).1 f.2.2.1).2 ≠ 0 then (Nv.est0, (Nv.popE (Nv.popE x.2.1 f.2.1).1 f.2.2.1).2) else
      if i.1 = 7 then (if Nv.need (Nv.popE (Nv.popE x.2.1 f.2.1).1 f.2.2.1).1 + Nv.size x.1 > 18 then (Nv.est0, 13) else Nv.finE i (x.1, (Nv.popE (Nv.popE x.2.1 f.2.1).1 f.2.2.1).1 ++ [x.1], x.2.2))
      else Nv.finE i (x.1, (Nv.popE (Nv.popE x.2.1 f.2.1).1 f.2.2.1).1, x.2.2)) := by
    unfold bodyM
    have hlen := hx.len
    have c0 : cut (walkOf x m1 m2).2.1 0 none = x.2.1 := by simp [cut, hlist]
    have l1 := Nv.popE_len x.2.1 f.2.1
    have l2 := Nv.popE_len (Nv.popE x.2.1 f.2.1).1 f.2.2.1
    have n1 := Nv.popE_need (l := x.2.1) (m := f.2.1)
    have n2 := Nv.popE_need (l := (Nv.popE x.2.1 f.2.1).1) (m := f.2.2.1)
    have nx := hx.list
    rcases popQ_ok (x := walkOf x m1 m2) (o := none) (m := f.2.1) (k := fun o d => popQ (walkOf x m1 m2) o d f.2.2.1 fun o d => pushQ5 f i ((walkOf x m1 m2).1, cut (walkOf x m1 m2).2.1 0 o, d, (walkOf x m1 m2).2.2.2))
      (by rw [c0]; omega) (fun h e => by cases e) with ⟨e0, o1, v1, k1, e1⟩ | ⟨e0, z, e1⟩
    · rw [c0] at e0 k1 e1
      have hd : (walkOf x m1 m2).2.2.1 = Nv.need x.2.1 := rfl
      rw [hd, e1]
      have hno : ¬ (Nv.popE x.2.1 f.2.1).2 ≠ 0 := fun h => h e0
      rw [if_neg hno]
      rcases popQ_ok (x := walkOf x m1 m2) (o := o1) (m := f.2.2.1) (k := fun o d => pushQ5 f i ((walkOf x m1 m2).1, cut (walkOf x m1 m2).2.1 0 o, d, (walkOf x m1 m2).2.2.2))
        (by rw [k1]; omega) v1 with ⟨e2, o2, v2, k2, e3⟩ | ⟨e2, z, e3⟩
      · rw [k1] at e2 k2 e3
        rw [e3]
        have hno2 : ¬ (Nv.popE (Nv.popE x.2.1 f.2.1).1 f.2.2.1).2 ≠ 0 := fun h => h e2
        rw [if_neg hno2, k2]
        exact pushQ5_ok (x := (x.1, (Nv.popE (Nv.popE x.2.1 f.2.1).1 f.2.2.1).1, x.2.2)) hf h1 h2 hx.outs (by simp only; omega) ⟨m1, m2, s1, s2, rfl⟩
      · rw [k1] at e2 e3
        rw [e3, if_pos e2]
        exact Ans.err e2
    · rw [c0] at e0 e1
      have hd : (walkOf x m1 m2).2.2.1 = Nv.need x.2.1 := rfl
      rw [hd, e1, if_pos e0]
      exact Ans.err e0
  have hpush : Ans Walks (pushM f i (walkOf x m1 m2)) (if i.1 = 7 ∧ x.1 = 0 then (Nv.est0, 6) else (if (Nv.popE x.2.1 f.2.1).2 ≠ 0 then (Nv.est0, (Nv.popE x.2.1 f.2.1).2) else
      if (Nv.popE (Nv.popE x.2.1 f.2.1).1 f.2.2.1).2 ≠ 0 then (Nv.est0, (Nv.popE (Nv.popE x.2.1 f.2.1).1 f.2.2.1).2) else
      if i.1 = 7 then (if Nv.need (Nv.popE (Nv.popE x.2.1 f.2.1).1 f.2.2.1).1 + Nv.size x.1 > 18 then (Nv.est0, 13) else Nv.finE i (x.1, (Nv.popE (Nv.popE x.2.1 f.2.1).1 f.2.2.1).1 ++ [x.1], x.2.2))
      else Nv.finE i (x.1, (Nv.popE (Nv.popE x.2.1 f.2.1).1 f.2.2.1).1, x.2.2))) := by
    unfold pushM
    by_cases h7 : i.1 = 7
    · rw [hp.2 h7, cond_true]
      show Ans Walks (bif x.1 == 0 then _ else _) _
      rw [bif_eq]
      by_cases h0 : x.1 = 0
      · rw [if_pos h0, if_pos ⟨h7, h0⟩]; exact Ans.err (by omega)
      · have hno : ¬ (i.1 = 7 ∧ x.1 = 0) := fun h => h0 h.2
        rw [if_neg h0, if_neg hno]; exact key
    · have hpf : f.2.2.2.2 = false := by
        cases hx' : f.2.2.2.2 with
        | false => rfl
        | true => exact absurd (hp.1 hx') h7
      have hno : ¬ (i.1 = 7 ∧ x.1 = 0) := fun h => h7 h.1
      rw [hpf, cond_false, if_neg hno]; exact key
  by_cases hin : f.1 = 0
  · rw [show (f.1 != 0) = false by simp [hin], cond_false]
    by_cases h7 : i.1 = 7 ∧ x.1 = 0
    · rw [if_pos h7] at hpush
      rw [if_pos (.inr h7)]; exact hpush
    · rw [if_neg h7] at hpush
      have hno : ¬ ((f.1 ≠ 0 ∧ f.1 ≠ x.1) ∨ (i.1 = 7 ∧ x.1 = 0)) := fun h => h.elim (fun h => h.1 hin) h7
      rw [if_neg hno]; exact hpush
  · rw [show (f.1 != 0) = true by simpa using hin, cond_true]
    show Ans Walks (bif f.1 != x.1 then _ else _) _
    by_cases hm : f.1 = x.1
    · rw [show (f.1 != x.1) = false by simp [hm], cond_false]
      by_cases h7 : i.1 = 7 ∧ x.1 = 0
      · rw [if_pos h7] at hpush
        rw [if_pos (.inr h7)]; exact hpush
      · rw [if_neg h7] at hpush
        have hno : ¬ ((f.1 ≠ 0 ∧ f.1 ≠ x.1) ∨ (i.1 = 7 ∧ x.1 = 0)) := fun h => h.elim (fun h => h.2 hm) h7
        rw [if_neg hno]; exact hpush
    · rw [show (f.1 != x.1) = true by simpa using hm, cond_true, if_pos (.inl ⟨hin, hm⟩)]; exact Ans.err (by omega)
theorem okM (f : Nv.Form) (R : Type) : CallsOK Tryz.prog (callM f R) := callsE_ok tt_ok mixed names (fun fn s hs => by
  unfold specsM at hs
  split at hs
  · cases hs
    exact specD_ok (m18.of fun x y h => by
      obtain ⟨k, ⟨⟩⟩ := x
      change (bif kn k && decide (Nv.form k = f) then some (f, ()) else none) = some y at h
      show (bif kn k then some (Nv.form k, ()) else none) = some y
      cases hb : kn k && decide (Nv.form k = f) with
      | false => rw [hb] at h; cases h
      | true =>
        rw [hb] at h
        simp only [Bool.and_eq_true, decide_eq_true_eq] at hb
        rw [hb.1, hb.2]; exact h) flat_form (cntN 33 (by kernel_rfl))
  · cases hs) 20
def F34 (x : WSt) (i : Ins) : OW := modesK (Nv.form i.1) i x
theorem fn34 : FnP Tryz.prog 29 trWalk sIns rE fun x y => F34 x y.1 := evalP_ok tt_ok mixed names fun x y z h => by
  obtain ⟨i, ⟨⟩⟩ := y
  change modesK (Nv.form i.1) i x = some z at h
  cases hk : kn i.1 with
  | false =>
    unfold modesK onlyQ at h
    rw [hk, Bool.false_and, cond_false] at h; cases h
  | true =>
    have h3 := kn_iff.1 hk
    exact ⟨_, _, _, okM (Nv.form i.1), (e34_all (of_decide_eq_true (each38_at forms16 h3.1 h3.2)) i x).trans h⟩
/-! ### step -/
theorem spanQ_eq {α : Type} (op : Int) (k : Int → Int → α) : spanQ op k = k (Nv.spR op) (Nv.spW op) := by
  unfold spanQ Nv.spR Nv.spW
  repeat rw [bif_eq]
  by_cases h1 : op = 1
  · subst h1; rfl
  by_cases h2 : op = 2
  · subst h2; rfl
  by_cases h3 : op = 31
  · subst h3; rfl
  by_cases h4 : op = 32
  · subst h4; rfl
  by_cases h5 : op = 3
  · subst h5; rfl
  by_cases h6 : op = 4
  · subst h6; rfl
  simp only [h1, h2, h3, h4, h5, h6, if_false]
theorem fn33 : FnOK Tryz.prog 28 sOp [.val tI, .val tI] fun x => bif true then some (Nv.spR x.1, Nv.spW x.1, ()) else none := fnDom fun x _ => by
  obtain ⟨k, ⟨⟩⟩ := x
  exact ⟨_, call0_ok, [], (e33_eq k).trans (spanQ_eq k _)⟩
theorem flatII : ∀ s ∈ ([.val tI, .val tI] : Sig), s.flat = true := by intro s hs; simp at hs; subst hs; rfl
def gW : GW := ⟨F34, Nv.spR, Nv.spW⟩
theorem okW (R : Type) : CallsOK Tryz.prog (callW gW R) := callsE_ok tt_ok mixed names (fun fn s hs => by
  unfold specsW at hs
  split at hs
  · cases hs; exact specD_ok fn33 flatII (cntN 28 (by kernel_rfl))
  · cases hs; exact specP_ok fn34 (cntN 29 (by kernel_rfl))
  · cases hs) 20
theorem wfI_small {n : Int} (h1 : -100000 ≤ n) (h2 : n ≤ 100000) : wfI n = true := by
  have a : IntKind.i64.min = -9223372036854775808 := by decide
  have b : IntKind.i64.max = 9223372036854775807 := by decide
  show (decide (IntKind.i64.min ≤ n) && decide (n ≤ IntKind.i64.max)) = true
  rw [a, b]
  simp only [Bool.and_eq_true, decide_eq_true_eq]; omega
theorem stp0_loop {x : Nv.ESt} {i : Ins} {w : Int} {m2 : Mp} {r : Nat} (ha : -1000 ≤ i.2.1 ∧ i.2.1 ≤ 5000) (hr : r ≤ 100) (s2 : Nv.IsSet m2 x.2.2.2.1) :
    ∀ (n k : Nat) (m1 : Mp) (R : List Int), k + n = r → Nv.IsSet m1 R → ∃ m1', Nv.IsSet m1' (Nv.addR x.2.2.2.1 i.2.1 n (k : Int) R) ∧
      lim (S210 gW) (walkOf x m1 m2, i, w, (r : Int), (k : Int), ()) = some (.inl (walkOf x m1' m2, i, w, ()))
  | 0, k, m1, R, h, s1 => by
    refine ⟨m1, s1, lim_end ?_⟩
    rw [S210_eq, decide_eq_false (show ¬ (k : Int) < (r : Int) by omega), cond_false]
  | n + 1, k, m1, R, h, s1 => by
    have e1 : decide ((k : Int) < (r : Int)) = true := decide_eq_true (by omega)
    have e2 : w64 (i.2.1 + (k : Int)) = i.2.1 + (k : Int) := w64_small (by omega) (by omega)
    have hg := s2.get (i.2.1 + (k : Int))
    simp only [Nv.addR]
    cases hb : Nv.inB x.2.2.2.1 (i.2.1 + (k : Int)) with
    | true =>
      have hs : S210 gW (walkOf x m1 m2, i, w, (r : Int), (k : Int), ()) = some (.inl (walkOf x m1 m2, i, w, (r : Int), ((k + 1 : Nat) : Int), ())) := by
        rw [S210_eq, e1, e2, show getL (i.2.1 + (k : Int)) false (walkOf x m1 m2).2.2.2.2.1 = true from hg.trans hb, cond_true, Bool.not_true, cond_false, w64_small (by omega) (by omega)]; rfl
      rw [lim_next hs, if_pos rfl]
      exact stp0_loop ha hr s2 n (k + 1) m1 R (by omega) s1
    | false =>
      have hs : S210 gW (walkOf x m1 m2, i, w, (r : Int), (k : Int), ()) = some (.inl (walkOf x (putL (i.2.1 + (k : Int)) true m1) m2, i, w, (r : Int), ((k + 1 : Nat) : Int), ())) := by
        rw [S210_eq, e1, e2, show getL (i.2.1 + (k : Int)) false (walkOf x m1 m2).2.2.2.2.1 = false from hg.trans hb, cond_true, Bool.not_false, cond_true, wfI_small (by omega) (by omega), cond_true, w64_small (by omega) (by omega)]; rfl
      rw [lim_next hs, if_neg (by simp)]
      exact stp0_loop ha hr s2 n (k + 1) _ _ (by omega) (s1.put _)
theorem stp2_loop {x : Nv.ESt} {i : Ins} {m1 : Mp} {r : Nat} (ha : -1000 ≤ i.2.1 ∧ i.2.1 ≤ 5000) (hr : r ≤ 100) :
    ∀ (n k : Nat) (m2 : Mp) (W : List Int), k + n = r → Nv.IsSet m2 W → ∃ m2', Nv.IsSet m2' (Nv.addW i.2.1 n (k : Int) W) ∧
      lim (S212 gW) (walkOf x m1 m2, i, (r : Int), (k : Int), ()) = some (.inl (walkOf x m1 m2', ()))
  | 0, k, m2, W, h, s2 => by
    refine ⟨m2, s2, lim_end ?_⟩
    rw [S212_eq, decide_eq_false (show ¬ (k : Int) < (r : Int) by omega), cond_false]
  | n + 1, k, m2, W, h, s2 => by
    have e1 : decide ((k : Int) < (r : Int)) = true := decide_eq_true (by omega)
    have e2 : w64 (i.2.1 + (k : Int)) = i.2.1 + (k : Int) := w64_small (by omega) (by omega)
    simp only [Nv.addW]
    have hs : S212 gW (walkOf x m1 m2, i, (r : Int), (k : Int), ()) = some (.inl (walkOf x m1 (putL (i.2.1 + (k : Int)) true m2), i, (r : Int), ((k + 1 : Nat) : Int), ())) := by
      rw [S212_eq, e1, e2, cond_true, wfI_small (by omega) (by omega), cond_true, w64_small (by omega) (by omega)]; rfl
    rw [lim_next hs]
    exact stp2_loop ha hr n (k + 1) _ _ (by omega) (s2.put _)
/-- the step's domain: what Decode lets through -/
structure Fit (i : Ins) : Prop where
  op : 1 ≤ i.1 ∧ i.1 ≤ 38
  arg : -1000 ≤ i.2.1 ∧ i.2.1 ≤ 5000
noncomputable def F21 (x : WSt) (i : Ins) : OW := bif decide (w64 (Nv.spR i.1 + Nv.spW i.1) > 0) then bif decide (w64 (w64 (i.2.1 + Nv.spR i.1) + Nv.spW i.1) > 2048) then retW x 3 else stepM gW i x else stepM gW i x
theorem stepM_ok {i : Ins} {x : Nv.ESt} {p : WSt} {c : Nat} (hi : Fit i) (hc : c ≤ 5000) (hx : Nv.Good c x) (hw : Walks p x) (hno : ¬ (Nv.spR i.1 + Nv.spW i.1 > 0 ∧ i.2.1 + Nv.spR i.1 + Nv.spW i.1 - 1 > 2047)) : Ans Walks (stepM gW i p) (Nv.stepE i x) := by
  obtain ⟨z, hz, hr⟩ := modesK_ok rfl hi.op.1 hi.op.2 hx hw
  unfold stepM Nv.stepE
  rw [if_neg hno]
  show Ans Walks (match modesK (Nv.form i.1) i p with
    | none => none
    | some z => bif z.2.1 != 0 then retW z.1 z.2.1 else match lim (S210 gW) (z.1, i, Nv.spW i.1, Nv.spR i.1, 0, ()) with
      | none => none
      | some (.inl y) => (match lim (S212 gW) (y.1, y.2.1, y.2.2.1, 0, ()) with
        | none => none
        | some (.inl q) => retW (setSteps q.1 (w64 (q.1.2.2.2.2.2.2.2.1 + 1))) 0
        | some (.inr _) => none)
      | some (.inr _) => none) _
  rw [hz]
  simp only
  by_cases he : (Nv.modesE i x).2 = 0
  · rw [he, show ((0 : Int) != 0) = false by rfl, cond_false]
    have hn : ¬ (0 : Int) ≠ 0 := fun h => h rfl
    rw [if_neg hn]
    have hk := Nv.modesE_keeps hx he
    obtain ⟨m1, m2, s1, s2, rfl⟩ := hr he
    have sp := Nv.sp_le i.1
    obtain ⟨r, hrr⟩ : ∃ r : Nat, Nv.spR i.1 = (r : Int) := ⟨(Nv.spR i.1).toNat, by omega⟩
    obtain ⟨w, hww⟩ : ∃ w : Nat, Nv.spW i.1 = (w : Int) := ⟨(Nv.spW i.1).toNat, by omega⟩
    obtain ⟨m1', t1, q1⟩ := stp0_loop (x := (Nv.modesE i x).1) (i := i) (w := Nv.spW i.1) (m2 := m2) (r := r) hi.arg (by omega) s2 r 0 m1 _ (by omega) s1
    obtain ⟨m2', t2, q2⟩ := stp2_loop (x := (Nv.modesE i x).1) (i := i) (m1 := m1') (r := w) hi.arg (by omega) w 0 m2 _ (by omega) s2
    have q1' : lim (S210 gW) (walkOf (Nv.modesE i x).1 m1 m2, i, Nv.spW i.1, Nv.spR i.1, 0, ()) = some (.inl (walkOf (Nv.modesE i x).1 m1' m2, i, Nv.spW i.1, ())) := by
      rw [hrr]; exact q1
    rw [q1']
    simp only
    have q2' : lim (S212 gW) (walkOf (Nv.modesE i x).1 m1' m2, i, Nv.spW i.1, 0, ()) = some (.inl (walkOf (Nv.modesE i x).1 m1' m2', ())) := by rw [hww]; exact q2
    rw [q2']
    simp only
    have hst : (walkOf (Nv.modesE i x).1 m1' m2').2.2.2.2.2.2.2.1 = x.2.2.2.2.1 := hk.steps
    rw [hst, hx.steps, w64_small (by omega) (by omega)]
    refine Ans.ok ⟨m1', m2', ?_, ?_, ?_⟩
    · simp only [hrr, Int.toNat_natCast]
      rw [← hk.reads, ← hk.writes]; exact t1
    · simp only [hww, Int.toNat_natCast]
      rw [← hk.writes]; exact t2
    · unfold setSteps walkOf
      simp only
  · rw [show ((Nv.modesE i x).2 != 0) = true by simpa using he, cond_true, if_pos he]
    exact Ans.err he
theorem F21_ok {i : Ins} {x : Nv.ESt} {p : WSt} {c : Nat} (hi : Fit i) (hc : c ≤ 5000) (hx : Nv.Good c x) (hw : Walks p x) : Ans Walks (F21 p i) (Nv.stepE i x) := by
  unfold F21
  have sp := Nv.sp_le i.1
  have ha := hi.arg
  rw [w64_small (k := Nv.spR i.1 + Nv.spW i.1) (by omega) (by omega), w64_small (k := i.2.1 + Nv.spR i.1) (by omega) (by omega), w64_small (k := i.2.1 + Nv.spR i.1 + Nv.spW i.1) (by omega) (by omega)]
  by_cases h1 : Nv.spR i.1 + Nv.spW i.1 > 0
  · rw [decide_eq_true h1, cond_true]
    by_cases h2 : i.2.1 + Nv.spR i.1 + Nv.spW i.1 > 2048
    · rw [decide_eq_true h2, cond_true]
      unfold Nv.stepE
      rw [if_pos ⟨h1, by omega⟩]
      exact Ans.err (by omega)
    · rw [decide_eq_false h2, cond_false]
      exact stepM_ok hi hc hx hw (by omega)
  · rw [decide_eq_false h1, cond_false]
    exact stepM_ok hi hc hx hw (by omega)
theorem fn21 : FnP Tryz.prog 15 trWalk sIns rE fun x y => F21 x y.1 := evalP_ok tt_ok mixed names fun x y z h => by
  obtain ⟨i, ⟨⟩⟩ := y
  exact ⟨_, _, _, okW, (e21_eq gW i x).trans h⟩
/-! ### Of -/
theorem kind1_arg : each38 (fun k => decide (Nv.spR k + Nv.spW k > 0 → kindOf k = 1)) = true := by decide +kernel
theorem dec_fit {l : List Int} {i : Int} (h : (decP l i).2.2 = 0) : Fit (decP l i).1 ∧ (Nv.spR (decP l i).1.1 + Nv.spW (decP l i).1.1 > 0 → 0 ≤ (decP l i).1.2.1) := by
  obtain ⟨⟨h1, h2, h3, _⟩, _⟩ := dec_fits h
  refine ⟨⟨h1, by omega⟩, fun hs => h3 ?_⟩
  have := of_decide_eq_true (each38_at kind1_arg h1.1 h1.2)
  rw [this hs]; decide
noncomputable def gF : GF := ⟨decP, inOKb, F21⟩
theorem okF (R : Type) : CallsOK Tryz.prog (callF gF R) := callsE_ok tt_ok mixed names (fun fn s hs => by
  unfold specsF at hs
  split at hs
  · cases hs; exact specD_ok m33 flatDec (cntN 14 (by kernel_rfl))
  · cases hs; exact specP_ok fn21 (cntN 15 (by kernel_rfl))
  · cases hs; exact specSort_ok
  · cases hs) 20
theorem srtQ_ok {α : Type} {m : Mp} {l : List Int} {k : List Int → Option α} (h : Nv.IsSet m l) (hl : l.length ≤ 1000000000) : srtQ m k = k l := by
  unfold srtQ
  rw [decide_eq_true (show m.length ≤ 1000000000 by rw [h.len]; exact hl), cond_true]
  exact congrArg k h.srt
def isEnd (k : Int) : Prop := k = 36 ∨ k = 37 ∨ k = 38
theorem rest6_eq (code : List Int) (e : Eff5) (i : Ins) (x : WSt) (next : Int) : rest6 code e i x next = if i.1 = 36 ∨ i.1 = 37 ∨ i.1 = 38 then fin6 code i x next else some (.inl (code, e, x, next, ())) := by
  unfold rest6
  by_cases h1 : i.1 = 36
  · rw [show (i.1 != 36) = false by simp [h1], cond_false, if_pos (.inl h1)]
  rw [show (i.1 != 36) = true by simpa using h1, cond_true]
  by_cases h2 : i.1 = 37
  · rw [show (i.1 != 37) = false by simp [h2], cond_false, if_pos (.inr (.inl h2))]
  rw [show (i.1 != 37) = true by simpa using h2, cond_true]
  by_cases h3 : i.1 = 38
  · rw [show (i.1 != 38) = false by simp [h3], cond_false, if_pos (.inr (.inr h3))]
  have hno : ¬ (i.1 = 36 ∨ i.1 = 37 ∨ i.1 = 38) := by omega
  rw [show (i.1 != 38) = true by simpa using h3, cond_true, if_neg hno]
theorem fin6_ok {code : List Int} {i : Ins} {x : Nv.ESt} {p : WSt} {c : Nat} {next : Int} (hx : Nv.Good c x) (hc : c ≤ 5000) (hw : Walks p x) (hi : i.1 = 36 ∨ i.1 = 37 ∨ i.1 = 38) :
    fin6 code i p next = if next < (code.length : Int) then ret6 effZ next 5 else ret6 (Nv.nextE i x.2.2) 0 0 := by
  obtain ⟨m1, m2, s1, s2, rfl⟩ := hw
  unfold fin6
  by_cases hn : next < (code.length : Int)
  · rw [decide_eq_true hn, cond_true, if_pos hn]
  rw [decide_eq_false hn, cond_false, if_neg hn]
  have hN : (walkOf x m1 m2).2.2.2.2.2.2.2.2.2 = [] := hx.next
  have hr := hx.rlen
  have hwl := hx.wlen
  have k2 : ∀ N : List Int, (srtQ (walkOf x m1 m2).2.2.2.1 fun A => srtQ (walkOf x m1 m2).2.2.2.2.1 fun B => ret6 (A, B, (walkOf x m1 m2).2.2.2.2.2.2.2.1, (walkOf x m1 m2).2.2.2.2.2.2.2.2.1, N) 0 0) = ret6 (x.2.2.1, x.2.2.2.1, x.2.2.2.2.1, x.2.2.2.2.2.1, N) 0 0 := fun N =>
    (srtQ_ok s1 (by omega)).trans (srtQ_ok s2 (by omega))
  simp only [hN, k2]
  unfold Nv.nextE
  rcases hi with h | h | h
  · rw [h]; simp only [show ((36 : Int) != 38) = true by rfl, show ((36 : Int) == 37) = false by rfl, cond_true, cond_false, List.nil_append]
    rw [app_ok (by simp), if_pos trivial]
  · rw [h]; simp only [show ((37 : Int) != 38) = true by rfl, show ((37 : Int) == 37) = true by rfl, cond_true, List.nil_append]
    have hno : ¬ (37 : Int) = 36 := by decide
    rw [app_ok (by simp), app_ok (by simp), if_neg hno, if_pos trivial]; rfl
  · rw [h]; simp only [show ((38 : Int) != 38) = false by rfl, show ((38 : Int) == 37) = false by rfl, cond_false]
    have h1 : ¬ (38 : Int) = 36 := by decide
    have h2 : ¬ (38 : Int) = 37 := by decide
    rw [if_neg h1, if_neg h2, hx.next]
/-- what the loop comes to -/
def outOf (code : List Int) (r : Nv.Eff × Int × Int) (o : Option ((List Int × Eff5 × Unit) ⊕ R60)) : Prop :=
  o = some (.inr (r.1, r.2.1, r.2.2, ())) ∨ (r = (effZ, (code.length : Int), 9) ∧ o = some (.inl (code, effZ, ())))
theorem of6_loop {code : List Int} (hc : inOKb code = true) (hl : code.length ≤ 1024) : ∀ (n : Nat) (at_ : Int) (x : Nv.ESt) (p : WSt) (c : Nat), 0 ≤ at_ → (c : Int) ≤ at_ → at_ ≤ (code.length : Int) → (code.length : Int) < at_ + n → Nv.Good c x → Walks p x →
    outOf code (Nv.ofE decP code n x at_) (lim (S60 gF) (code, effZ, p, at_, ()))
  | 0, at_, x, p, c, _, _, h1, h2, _, _ => by omega
  | n + 1, at_, x, p, c, h0, hca, h1, h2, hx, hw => by
    unfold Nv.ofE
    by_cases hat : at_ < (code.length : Int)
    · rw [if_pos hat]
      have hS : S60 gF (code, effZ, p, at_, ()) = body6 gF code effZ p at_ (decP code at_) := by
        rw [S60_eq, decide_eq_true hat, cond_true]
        show onlyQ (inOKb code) _ = _
        unfold onlyQ
        rw [hc]; rfl
      unfold body6 at hS
      by_cases hd : (decP code at_).2.2 = 0
      · rw [hd, show ((0 : Int) == 0) = true by rfl, cond_true] at hS
        obtain ⟨hf, harg⟩ := dec_fit hd
        obtain ⟨hfit, hnext, hle, _⟩ := dec_fits hd
        have hlp := len_pos hfit.1.1 hfit.1.2
        have htb := tbl hfit.1.1 hfit.1.2
        obtain ⟨z, hz, hr⟩ := F21_ok hf (by omega) hx hw
        change S60 gF _ = step6 code at_ (F21 p (decP code at_).1) _ at hS
        rw [hz] at hS
        unfold step6 at hS
        simp only at hS
        have hno : ¬ (decP code at_).2.2 ≠ 0 := fun h => h hd
        rw [if_neg hno]
        by_cases hs : (Nv.stepE (decP code at_).1 x).2 = 0
        · have hno2 : ¬ (Nv.stepE (decP code at_).1 x).2 ≠ 0 := fun h => h hs
          rw [if_neg hno2]
          rw [hs, show ((0 : Int) != 0) = false by rfl, cond_false] at hS
          have hg := Nv.stepE_good hx ⟨htb.out2, htb.out0⟩ harg hs
          have hw2 := hr hs
          rw [rest6_eq] at hS
          by_cases he : (decP code at_).1.1 = 36 ∨ (decP code at_).1.1 = 37 ∨ (decP code at_).1.1 = 38
          · rw [if_pos he, fin6_ok hg (by omega) hw2 he] at hS
            rw [if_pos he]
            by_cases hb : (decP code at_).2.1 < (code.length : Int)
            · rw [if_pos hb] at hS
              rw [if_pos hb]
              exact .inl (lim_end hS)
            · rw [if_neg hb] at hS
              rw [if_neg hb]
              exact .inl (lim_end hS)
          · rw [if_neg he] at hS
            rw [if_neg he, lim_next hS]
            exact of6_loop hc hl n _ _ _ (c + 1) (by omega) (by omega) hle (by omega) hg hw2
        · rw [if_pos hs]
          rw [show ((Nv.stepE (decP code at_).1 x).2 != 0) = true by simpa using hs, cond_true] at hS
          exact .inl (lim_end hS)
      · rw [show ((decP code at_).2.2 == 0) = false by simpa using hd, cond_false, show ((decP code at_).2.2 != 0) = true by simpa using hd, cond_true] at hS
        rw [if_pos hd]
        exact .inl (lim_end hS)
    · rw [if_neg hat]
      refine .inr ⟨rfl, lim_end ?_⟩
      rw [S60_eq, decide_eq_false hat, cond_false]
/-- words -/
def wdsOk (l : List Int) : Bool := l.all fun w => decide (0 ≤ w) && decide (w ≤ 65535)
theorem wdsOk_in {l : List Int} (h : wdsOk l = true) (hl : l.length ≤ 1024) : inOKb l = true := by
  unfold inOKb
  rw [show (l.all fun w => decide (0 ≤ w) && decide (w ≤ 65535)) = true from h, Bool.true_and]
  exact Nat.ble_eq_true_of_le (by omega)
theorem of6_eq {code : List Int} (hc : wdsOk code = true) : evalT Tryz.prog tt (callF gF) [of0] [] 6 [.val tWs] rOf (code, ()) = some ((Nv.ofP decP code).1, (Nv.ofP decP code).2.1, (Nv.ofP decP code).2.2, ()) := by
  rw [e6_eq]
  unfold Nv.ofP
  by_cases hl : (code.length : Int) > 1024
  · rw [decide_eq_true hl, cond_true, if_pos hl]; rfl
  · rw [decide_eq_false hl, cond_false, if_neg hl]
    have h := of6_loop (wdsOk_in hc (by omega)) (by omega) (code.length + 1) 0 Nv.est0 walk0 0 (by omega) (by omega) (by omega) (by omega) Nv.Good.start ⟨[], [], Nv.IsSet.nil, Nv.IsSet.nil, rfl⟩
    rcases h with h | ⟨h1, h2⟩
    · rw [h]
    · rw [h2, h1]
theorem fnOf6 : FnT Tryz.prog 6 [.val tWs] rOf fun x => bif wdsOk x.1 then some ((Nv.ofP decP x.1).1, (Nv.ofP decP x.1).2.1, (Nv.ofP decP x.1).2.2, ()) else none := domT fun x hx => by
  obtain ⟨l, ⟨⟩⟩ := x
  exact ⟨_, okF, _, _, of6_eq hx⟩
end Go.Pv.Ef
/-! ### Safe, Check, Same, live: what they compute; the laws EffectTells and EffectLists return true. -/
namespace Go.Pv.Ef
open Go.Proofs
set_option maxRecDepth 1000000
/-- an effect that Of may return -/
structure Fine (f : Nv.Eff) : Prop where
  rlen : f.1.length ≤ 100000
  wlen : f.2.1.length ≤ 100000
  rin : ∀ y ∈ f.1, 0 ≤ y ∧ y ≤ 2047
  win : ∀ y ∈ f.2.1, 0 ≤ y ∧ y ≤ 2047
  next : f.2.2.2.2.length ≤ 2
  outs : f.2.2.2.1 ≤ 8
theorem Fine.zero : Fine Nv.eff0 := ⟨Nat.zero_le _, Nat.zero_le _, (fun y hy => (List.not_mem_nil hy).elim), (fun y hy => (List.not_mem_nil hy).elim), Nat.zero_le _, by decide⟩
theorem ofE_fine {code : List Int} : ∀ (n : Nat) (at_ : Int) (x : Nv.ESt) (c : Nat), c + n ≤ 2000 → Nv.Good c x → Fine (Nv.ofE decP code n x at_).1
  | 0, _, _, _, _, _ => Fine.zero
  | n + 1, at_, x, c, h, hx => by
    unfold Nv.ofE
    by_cases hat : at_ < (code.length : Int)
    · rw [if_pos hat]
      by_cases hd : (decP code at_).2.2 = 0
      · have hno : ¬ (decP code at_).2.2 ≠ 0 := fun h => h hd
        rw [if_neg hno]
        by_cases hs : (Nv.stepE (decP code at_).1 x).2 = 0
        · have hno2 : ¬ (Nv.stepE (decP code at_).1 x).2 ≠ 0 := fun h => h hs
          rw [if_neg hno2]
          obtain ⟨hf, harg⟩ := dec_fit hd
          have htb := tbl hf.op.1 hf.op.2
          have hg := Nv.stepE_good hx ⟨htb.out2, htb.out0⟩ harg hs
          by_cases he : (decP code at_).1.1 = 36 ∨ (decP code at_).1.1 = 37 ∨ (decP code at_).1.1 = 38
          · rw [if_pos he]
            split
            · exact Fine.zero
            · have a := hg.rlen
              have b := hg.wlen
              refine ⟨by show (Nv.stepE _ x).1.2.2.1.length ≤ _; omega, by show (Nv.stepE _ x).1.2.2.2.1.length ≤ _; omega, hg.rin, hg.win, ?_, hg.outs.2⟩
              unfold Nv.nextE
              simp only
              split
              · simp
              · split
                · simp
                · rw [hg.next]; simp
          · rw [if_neg he]
            exact ofE_fine n _ _ (c + 1) (by omega) hg
        · rw [if_pos hs]; exact Fine.zero
      · rw [if_pos hd]; exact Fine.zero
    · rw [if_neg hat]; exact Fine.zero
theorem ofP_fine (code : List Int) : Fine (Nv.ofP decP code).1 := by
  unfold Nv.ofP
  split
  · exact Fine.zero
  · exact ofE_fine _ _ _ 0 (by omega) Nv.Good.start
theorem wfL_in {l : List Int} (h : ∀ y ∈ l, 0 ≤ y ∧ y ≤ 2047) : wfL l = true := List.all_eq_true.2 fun y hy => wfI_small (by have := h y hy; omega) (by have := h y hy; omega)
def dSafe (f : Eff5) : Bool := dCom f.1 f.2.1
theorem Fine.safe {f : Nv.Eff} (h : Fine f) : dSafe f = true := dCom_iff.2 ⟨⟨⟨by have := h.rlen; omega, by have := h.wlen; omega⟩, wfL_in h.rin⟩, wfL_in h.win⟩
def dSame (a b : Eff5) : Bool := decide (a = b) && (short big9 a.1 && (short big9 a.2.1 && short big9 a.2.2.2.2))
theorem Fine.same {f : Nv.Eff} (h : Fine f) : dSame f f = true := by
  have a := h.rlen
  have b := h.wlen
  have c := h.next
  simp only [dSame, Bool.and_eq_true, short_iff, big9, decide_eq_true_eq]
  exact ⟨trivial, by omega, by omega, by omega⟩
def gT : GT := ⟨Nv.ofP decP, wdsOk, Nv.common, dCom, Nv.safeP, dSafe, Nv.checkP decP, fun _ _ => true, dSame, fun _ _ => true, dInts, fun _ _ => true, dSameW⟩
theorem askQ_ok {α β : Type} {d : Bool} {v : α} {k : α → Option β} (h : d = true) : askQ d v k = k v := by subst h; rfl
theorem getQ_ok {α β : Type} {d : Bool} {v : α} {k : α → Option β} (h : d = true) : getQ d v k = k v := by subst h; rfl
theorem andQ_ok {b : Bool} {k : OB} (h : b = true) : andQ b k = k := by subst h; rfl
theorem ieq_self (a : Int) : (a == a) = true := by simp
/-- what is known, without the law's own 'live' -/
theorem specs_low (on : List Nat) (h9 : hasN 20 on = false) (h10 : hasN 12 on = false) (h11 : hasN 11 on = false) (h8 : hasN 17 on = false) (h14 : hasN 7 on = false) (R : Type) : CallsOK Tryz.prog (callT gT on R) := callsE_ok tt_ok mixed names (fun fn s hs => by
  unfold specsT at hs
  cases hb : hasN fn on with
  | false => rw [hb] at hs; cases hs
  | true =>
    rw [hb, cond_true] at hs
    split at hs
    · cases hs; exact specL_ok fnOf6 (cntN 6 (by kernel_rfl))
    · rw [h8] at hb; cases hb
    · rw [h9] at hb; cases hb
    · rw [h10] at hb; cases hb
    · rw [h11] at hb; cases hb
    · cases hs; exact specL_ok fnSameW.toT (cntN 13 (by kernel_rfl))
    · rw [h14] at hb; cases hb
    · cases hs; exact specL_ok fnInts.toT (cntN 31 (by kernel_rfl))
    · cases hs; exact specL_ok fnCom16 (cntN 39 (by kernel_rfl))
    · cases hs; exact specL_ok fnCom17 (cntN 21 (by kernel_rfl))
    · cases hs) 20
theorem zlen (l : List Int) : ((l.length : Int) == 0) = (l.length == 0) := by
  by_cases h : l.length = 0
  · simp [h]
  · rw [beq_eq_false_iff_ne.2 h, beq_eq_false_iff_ne.2 (by omega)]
theorem fnSafe9 : FnT Tryz.prog 20 sE1 [Sl.val 0 .bool] fun x => bif dSafe x.1 then some (Nv.safeP x.1, ()) else none := domT fun x hx => by
  obtain ⟨f, ⟨⟩⟩ := x
  refine ⟨_, specs_low [39] rfl rfl rfl rfl rfl, [], [], (e9_eq gT f).trans ((askQ_ok hx).trans ?_)⟩
  rw [zlen]; rfl
theorem fnSafe10 : FnT Tryz.prog 12 sE1 [Sl.val 0 .bool] fun x => bif dSafe x.1 then some (Nv.safeP x.1, ()) else none := domT fun x hx => by
  obtain ⟨f, ⟨⟩⟩ := x
  refine ⟨_, specs_low [21] rfl rfl rfl rfl rfl, [], [], (e10_eq gT f).trans ((askQ_ok hx).trans ?_)⟩
  rw [zlen]; rfl
theorem fnSame8 : FnT Tryz.prog 17 sEE [Sl.val 0 .bool] fun x => bif dSame x.1 x.2.1 then some (true, ()) else none := domT fun x hx => by
  obtain ⟨a, b, ⟨⟩⟩ := x
  simp only [dSame, Bool.and_eq_true, decide_eq_true_eq] at hx
  obtain ⟨rfl, h1, h2, h3⟩ := hx
  have hd : ∀ l : List Int, short big9 l = true → dInts l l = true := fun l hl => by unfold dInts; rw [hl, decide_eq_true rfl]; rfl
  refine ⟨_, specs_low [31] rfl rfl rfl rfl rfl, [], [], (e8_eq gT a a).trans ?_⟩
  exact (askQ_ok (hd _ h1)).trans ((andQ_ok rfl).trans ((askQ_ok (hd _ h2)).trans ((andQ_ok rfl).trans ((andQ_ok (ieq_self _)).trans ((andQ_ok (ieq_self _)).trans (askQ_ok (hd _ h3)))))))
theorem specs_mid (on : List Nat) (h11 : hasN 11 on = false) (h14 : hasN 7 on = false) (R : Type) : CallsOK Tryz.prog (callT gT on R) := callsE_ok tt_ok mixed names (fun fn s hs => by
  unfold specsT at hs
  cases hb : hasN fn on with
  | false => rw [hb] at hs; cases hs
  | true =>
    rw [hb, cond_true] at hs
    split at hs
    · cases hs; exact specL_ok fnOf6 (cntN 6 (by kernel_rfl))
    · cases hs; exact specL_ok fnSame8 (cntN 17 (by kernel_rfl))
    · cases hs; exact specL_ok fnSafe9 (cntN 20 (by kernel_rfl))
    · cases hs; exact specL_ok fnSafe10 (cntN 12 (by kernel_rfl))
    · rw [h11] at hb; cases hb
    · cases hs; exact specL_ok fnSameW.toT (cntN 13 (by kernel_rfl))
    · rw [h14] at hb; cases hb
    · cases hs; exact specL_ok fnInts.toT (cntN 31 (by kernel_rfl))
    · cases hs; exact specL_ok fnCom16 (cntN 39 (by kernel_rfl))
    · cases hs; exact specL_ok fnCom17 (cntN 21 (by kernel_rfl))
    · cases hs) 20
theorem chkQ_ok {c : List Int} (h : wdsOk c = true) : chkQ gT c = some (Nv.checkP decP c, ()) := by
  unfold chkQ ofQ
  refine (getQ_ok h).trans ?_
  show (bif (Nv.ofP decP c).2.2 == 0 then askQ (dSafe (Nv.ofP decP c).1) (Nv.safeP (Nv.ofP decP c).1) fun b => bif !b then some (15, ()) else some ((Nv.ofP decP c).2.2, ()) else some ((Nv.ofP decP c).2.2, ())) = _
  rw [bif_eq, askQ_ok (ofP_fine c).safe]
  unfold Nv.checkP
  by_cases h0 : (Nv.ofP decP c).2.2 = 0
  · rw [if_pos h0]
    cases hs : Nv.safeP (Nv.ofP decP c).1 with
    | true =>
      have hno : ¬ ((Nv.ofP decP c).2.2 = 0 ∧ true = false) := by simp
      rw [if_neg hno]; rfl
    | false => rw [if_pos ⟨h0, rfl⟩]; rfl
  · have hno : ¬ ((Nv.ofP decP c).2.2 = 0 ∧ Nv.safeP (Nv.ofP decP c).1 = false) := fun h => h0 h.1
    rw [if_neg h0, if_neg hno]
theorem fnChk11 : FnT Tryz.prog 11 sC1 [Sl.val 0 tI] fun x => bif wdsOk x.1 then some (Nv.checkP decP x.1, ()) else none := domT fun x hx => by
  obtain ⟨c, ⟨⟩⟩ := x
  exact ⟨_, specs_mid [6, 20] rfl rfl, [], [], (e11_eq gT c).trans (chkQ_ok hx)⟩
theorem specs_hi (on : List Nat) (h14 : hasN 7 on = false) (R : Type) : CallsOK Tryz.prog (callT gT on R) := callsE_ok tt_ok mixed names (fun fn s hs => by
  unfold specsT at hs
  cases hb : hasN fn on with
  | false => rw [hb] at hs; cases hs
  | true =>
    rw [hb, cond_true] at hs
    split at hs
    · cases hs; exact specL_ok fnOf6 (cntN 6 (by kernel_rfl))
    · cases hs; exact specL_ok fnSame8 (cntN 17 (by kernel_rfl))
    · cases hs; exact specL_ok fnSafe9 (cntN 20 (by kernel_rfl))
    · cases hs; exact specL_ok fnSafe10 (cntN 12 (by kernel_rfl))
    · cases hs; exact specL_ok fnChk11 (cntN 11 (by kernel_rfl))
    · cases hs; exact specL_ok fnSameW.toT (cntN 13 (by kernel_rfl))
    · rw [h14] at hb; cases hb
    · cases hs; exact specL_ok fnInts.toT (cntN 31 (by kernel_rfl))
    · cases hs; exact specL_ok fnCom16 (cntN 39 (by kernel_rfl))
    · cases hs; exact specL_ok fnCom17 (cntN 21 (by kernel_rfl))
    · cases hs) 20
theorem live1 : Nv.ofP decP [1, 64, 3, 66, 36, 2] = (liveEff, 0, 0) := by decide +kernel
theorem live2 : Nv.checkP decP [1, 64, 3, 64, 38] = 15 := by decide +kernel
theorem fnLive14 : FnT Tryz.prog 7 [] [Sl.val 0 .bool] fun _ => some (true, ()) := mkT fun x y h => by
  obtain ⟨⟩ := x
  refine ⟨_, specs_hi [6, 17, 11] rfl, [], [], (e14v_eq gT).trans (Eq.trans ?_ h)⟩
  unfold ofQ
  have a1 : gT.dOf [1, 64, 3, 66, 36, 2] = true := by decide
  have a2 : gT.dOf [1, 64, 3, 64, 38] = true := by decide
  have hof : gT.of [1, 64, 3, 66, 36, 2] = (liveEff, 0, 0) := live1
  have hck : gT.chk [1, 64, 3, 64, 38] = 15 := live2
  have a3 : gT.dSame liveEff liveEff = true := by decide
  rw [getQ_ok a1, askQ_ok a2, hof, hck]
  exact (andQ_ok rfl).trans ((askQ_ok a3).trans ((andQ_ok rfl).trans rfl))
theorem specs_all (on : List Nat) (R : Type) : CallsOK Tryz.prog (callT gT on R) := callsE_ok tt_ok mixed names (fun fn s hs => by
  unfold specsT at hs
  cases hb : hasN fn on with
  | false => rw [hb] at hs; cases hs
  | true =>
    rw [hb, cond_true] at hs
    split at hs
    · cases hs; exact specL_ok fnOf6 (cntN 6 (by kernel_rfl))
    · cases hs; exact specL_ok fnSame8 (cntN 17 (by kernel_rfl))
    · cases hs; exact specL_ok fnSafe9 (cntN 20 (by kernel_rfl))
    · cases hs; exact specL_ok fnSafe10 (cntN 12 (by kernel_rfl))
    · cases hs; exact specL_ok fnChk11 (cntN 11 (by kernel_rfl))
    · cases hs; exact specL_ok fnSameW.toT (cntN 13 (by kernel_rfl))
    · cases hs; exact specL_ok fnLive14 (cntN 7 (by kernel_rfl))
    · cases hs; exact specL_ok fnInts.toT (cntN 31 (by kernel_rfl))
    · cases hs; exact specL_ok fnCom16 (cntN 39 (by kernel_rfl))
    · cases hs; exact specL_ok fnCom17 (cntN 21 (by kernel_rfl))
    · cases hs) 20
end Go.Pv.Ef
/-! ### What Of tells of a segment holds of its execution: plain data. -/
namespace Go.Pv
open Go.Proofs
set_option maxRecDepth 1000000
/-- the registers are as the effect's state says -/
structure SimR (x : Nv.ESt) (g : Nv.Regs) (at_ : Int) : Prop where
  at' : g.1 = at_
  mode : g.2.1 = x.1
  list : g.2.2.2.2.1 = x.2.1
  outs : (g.2.2.2.2.2.2.length : Int) = x.2.2.2.2.2.1
  val : Nv.valid g = true
def spB (k : Int) : Bool := decide (Nv.words k = Nv.spR k + Nv.spW k) && (decide (Nv.spR k > 0 ∨ Nv.spW k > 0 → kindOf k = 1) && (decide (Nv.spW k = if k = 3 ∨ k = 4 then Nv.words k else 0) && decide (k = 33 ∨ k = 34 ∨ k = 35 → moves k = true)))
theorem sp_all : each38 spB = true := by decide +kernel
theorem sp_of {k : Int} (h1 : 1 ≤ k) (h2 : k ≤ 38) : Nv.words k = Nv.spR k + Nv.spW k ∧ (Nv.spR k > 0 ∨ Nv.spW k > 0 → kindOf k = 1) ∧ (Nv.spW k = if k = 3 ∨ k = 4 then Nv.words k else 0) := by
  have h := each38_at sp_all h1 h2
  simp only [spB, Bool.and_eq_true, decide_eq_true_eq] at h
  exact ⟨h.1, h.2.1, h.2.2.1⟩
theorem modesOk_take {l : List Int} (h : Nv.modesOk l = true) (n : Nat) : Nv.modesOk (l.take n) = true := List.all_eq_true.2 fun x hx => List.all_eq_true.1 h x (List.mem_of_mem_take hx)
theorem vals_len (m : Int) (a : Vc) : ((Nv.vals m a).length : Int) = Nv.size m := by unfold Nv.vals Nv.size; split <;> rfl
/-- a pop of the effect is a pop of the registers -/
theorem popE_ok {l : List Int} {m : Int} (h : (Nv.popE l m).2 = 0) (hm : m ≠ 0) : l.length ≠ 0 ∧ l.getD (l.length - 1) 0 = m ∧ (Nv.popE l m).1 = l.take (l.length - 1) ∧ Nv.need (l.take (l.length - 1)) = Nv.need l - Nv.size m := by
  unfold Nv.popE at h ⊢
  rw [if_neg hm] at h ⊢
  by_cases h0 : l.length = 0
  · rw [if_pos h0] at h; simp at h
  rw [if_neg h0] at h ⊢
  by_cases hd : l.getD (l.length - 1) 0 = m
  · have hno : ¬ l.getD (l.length - 1) 0 ≠ m := fun h => h hd
    rw [if_neg hno]
    have e := congrArg Nv.need (Nv.take_last h0)
    rw [Nv.need_append, hd] at e
    simp only [Nv.need] at e
    exact ⟨h0, hd, rfl, by omega⟩
  · rw [if_pos hd] at h; simp at h
theorem top_at {g : Nv.Regs} {m skip above : Int} (hm : m ≠ 0) (h1 : 0 ≤ (g.2.2.2.2.1.length : Int) - 1 - skip) (h2 : g.2.2.2.2.1.getD ((g.2.2.2.2.1.length : Int) - 1 - skip).toNat 0 = m) :
    (Nv.top g m skip above).2.2 = 0 ∧ (Nv.top g m skip above).2.1 = above + Nv.size m := by
  unfold Nv.top
  have hno : ¬ ((g.2.2.2.2.1.length : Int) - 1 - skip < 0) := by omega
  have hno2 : ¬ (g.2.2.2.2.1.getD ((g.2.2.2.2.1.length : Int) - 1 - skip).toNat 0 ≠ m) := fun h => h h2
  rw [if_neg hm, if_neg hno, if_neg hno2]
  exact ⟨rfl, rfl⟩
theorem pops_sim {g : Nv.Regs} {f : Nv.Form} (hv : Nv.valid g = true) (hf : (0 ≤ f.2.1 ∧ f.2.1 ≤ 2) ∧ (f.2.2.1 = 0 ∨ (f.2.1 = 1 ∧ f.2.2.1 = 1))) (next : Int)
    (p1 : (Nv.popE g.2.2.2.2.1 f.2.1).2 = 0) (p2 : (Nv.popE (Nv.popE g.2.2.2.2.1 f.2.1).1 f.2.2.1).2 = 0) :
    (Nv.top g f.2.1 0 0).2.2 = 0 ∧ (Nv.top g f.2.2.1 1 (Nv.top g f.2.1 0 0).2.1).2.2 = 0 ∧
    (Nv.popped g next (Nv.top g f.2.2.1 1 (Nv.top g f.2.1 0 0).2.1).2.1 (Nv.pops f.2.1 + Nv.pops f.2.2.1)).2.2.2.2.1 = (Nv.popE (Nv.popE g.2.2.2.2.1 f.2.1).1 f.2.2.1).1 ∧
    ((Nv.popped g next (Nv.top g f.2.2.1 1 (Nv.top g f.2.1 0 0).2.1).2.1 (Nv.pops f.2.1 + Nv.pops f.2.2.1)).2.2.2.1.length : Int) = Nv.need (Nv.popE (Nv.popE g.2.2.2.2.1 f.2.1).1 f.2.2.1).1 ∧
    Nv.modesOk (Nv.popE (Nv.popE g.2.2.2.2.1 f.2.1).1 f.2.2.1).1 = true := by
  obtain ⟨v1, v2, v3, v4, v5⟩ := valid_iff.1 hv
  have z0 : ∀ l : List Int, Nv.popE l 0 = (l, 0) := fun l => by unfold Nv.popE; rw [if_pos rfl]
  have t0 : ∀ s a, Nv.top g 0 s a = (Nv.zero3, a, 0) := fun s a => by unfold Nv.top; rw [if_pos rfl]
  have q0 : Nv.pops 0 = 0 := rfl
  by_cases m0 : f.2.1 = 0
  · have m20 : f.2.2.1 = 0 := by omega
    rw [m20, m0, z0, z0, t0, t0, q0, show (0 : Int) + 0 = 0 from rfl, popped_none]
    exact ⟨rfl, rfl, rfl, v3, v1⟩
  obtain ⟨a1, a2, a3, a4⟩ := popE_ok p1 m0
  have q1 : Nv.pops f.2.1 = 1 := by unfold Nv.pops; rw [if_neg m0]
  obtain ⟨t1, t2⟩ := top_at (g := g) (m := f.2.1) (skip := 0) (above := 0) m0 (by omega) (by rw [show ((g.2.2.2.2.1.length : Int) - 1 - 0).toNat = g.2.2.2.2.1.length - 1 by omega]; exact a2)
  have gs := Nv.size_ge f.2.1
  have gn := Nv.need_ge (g.2.2.2.2.1.take (g.2.2.2.2.1.length - 1))
  rcases hf.2 with m20 | ⟨m11, m21⟩
  · rw [m20, z0, t0, q0, q1, t2, a3]
    refine ⟨t1, rfl, ?_, ?_, modesOk_take v1 _⟩
    · show g.2.2.2.2.1.take ((g.2.2.2.2.1.length : Int) - (1 + 0)).toNat = _
      rw [show ((g.2.2.2.2.1.length : Int) - (1 + 0)).toNat = g.2.2.2.2.1.length - 1 by omega]
    · show ((g.2.2.2.1.take ((g.2.2.2.1.length : Int) - (0 + Nv.size f.2.1)).toNat).length : Int) = _
      rw [List.length_take, a4]; omega
  · rw [a3] at p2 ⊢
    obtain ⟨b1, b2, b3, b4⟩ := popE_ok p2 (by omega)
    have hlen : (g.2.2.2.2.1.take (g.2.2.2.2.1.length - 1)).length = g.2.2.2.2.1.length - 1 := by rw [List.length_take]; omega
    rw [hlen] at b1 b2 b3 b4
    have q2 : Nv.pops f.2.2.1 = 1 := by rw [m21]; rfl
    have hget : (g.2.2.2.2.1.take (g.2.2.2.2.1.length - 1)).getD (g.2.2.2.2.1.length - 1 - 1) 0 = g.2.2.2.2.1.getD (g.2.2.2.2.1.length - 1 - 1) 0 := by
      simp only [List.getD, List.getElem?_take]
      rw [if_pos (by omega)]
    rw [hget] at b2
    obtain ⟨t3, t4⟩ := top_at (g := g) (m := f.2.2.1) (skip := 1) (above := (Nv.top g f.2.1 0 0).2.1) (by omega) (by omega) (by rw [show ((g.2.2.2.2.1.length : Int) - 1 - 1).toNat = g.2.2.2.2.1.length - 1 - 1 by omega]; exact b2)
    have tt' : (g.2.2.2.2.1.take (g.2.2.2.2.1.length - 1)).take (g.2.2.2.2.1.length - 1 - 1) = g.2.2.2.2.1.take (g.2.2.2.2.1.length - 1 - 1) := by rw [List.take_take, Nat.min_eq_left (by omega)]
    rw [tt'] at b3 b4
    rw [b3, q1, q2, t4, t2]
    rw [t2] at t3
    have gn2 := Nv.need_ge (g.2.2.2.2.1.take (g.2.2.2.2.1.length - 1 - 1))
    refine ⟨t1, t3, ?_, ?_, modesOk_take v1 _⟩
    · show g.2.2.2.2.1.take ((g.2.2.2.2.1.length : Int) - (1 + 1)).toNat = _
      rw [show ((g.2.2.2.2.1.length : Int) - (1 + 1)).toNat = g.2.2.2.2.1.length - 1 - 1 by omega]
    · show ((g.2.2.2.1.take ((g.2.2.2.1.length : Int) - (0 + Nv.size f.2.1 + Nv.size f.2.2.1)).toNat).length : Int) = _
      have gs2 := Nv.size_ge f.2.2.1
      rw [List.length_take, b4, a4]; omega
theorem popE_zero (l : List Int) : Nv.popE l 0 = (l, 0) := by unfold Nv.popE; rw [if_pos rfl]
/-- what an instruction without an error of the effect is -/
theorem stepE_inv {i : Ins} {x : Nv.ESt} (h : (Nv.stepE i x).2 = 0) : ¬ (Nv.spR i.1 + Nv.spW i.1 > 0 ∧ i.2.1 + Nv.spR i.1 + Nv.spW i.1 - 1 > 2047) ∧ (Nv.modesE i x).2 = 0 ∧
    (Nv.stepE i x).1 = ((Nv.modesE i x).1.1, (Nv.modesE i x).1.2.1, Nv.addR x.2.2.2.1 i.2.1 (Nv.spR i.1).toNat 0 x.2.2.1, Nv.addW i.2.1 (Nv.spW i.1).toNat 0 x.2.2.2.1, x.2.2.2.2.1 + 1, (Nv.modesE i x).1.2.2.2.2.2) := by
  unfold Nv.stepE at h ⊢
  by_cases c1 : Nv.spR i.1 + Nv.spW i.1 > 0 ∧ i.2.1 + Nv.spR i.1 + Nv.spW i.1 - 1 > 2047
  · rw [if_pos c1] at h; simp at h
  rw [if_neg c1] at h ⊢
  by_cases c2 : (Nv.modesE i x).2 = 0
  · have hno : ¬ (Nv.modesE i x).2 ≠ 0 := fun h => h c2
    rw [if_neg hno]; exact ⟨c1, c2, rfl⟩
  · rw [if_pos c2] at h; exact absurd h c2
theorem modesE_inv {i : Ins} {x : Nv.ESt} (h : (Nv.modesE i x).2 = 0) :
    ¬ (((Nv.form i.1).1 ≠ 0 ∧ (Nv.form i.1).1 ≠ x.1) ∨ (i.1 = 7 ∧ x.1 = 0)) ∧ (Nv.popE x.2.1 (Nv.form i.1).2.1).2 = 0 ∧ (Nv.popE (Nv.popE x.2.1 (Nv.form i.1).2.1).1 (Nv.form i.1).2.2.1).2 = 0 ∧
    (i.1 = 7 → Nv.need (Nv.popE (Nv.popE x.2.1 (Nv.form i.1).2.1).1 (Nv.form i.1).2.2.1).1 + Nv.size x.1 ≤ 18) ∧
    Nv.modesE i x = Nv.finE i (x.1, (Nv.popE (Nv.popE x.2.1 (Nv.form i.1).2.1).1 (Nv.form i.1).2.2.1).1 ++ (if i.1 = 7 then [x.1] else []), x.2.2) := by
  unfold Nv.modesE at h ⊢
  by_cases c1 : ((Nv.form i.1).1 ≠ 0 ∧ (Nv.form i.1).1 ≠ x.1) ∨ (i.1 = 7 ∧ x.1 = 0)
  · rw [if_pos c1] at h; simp at h
  rw [if_neg c1] at h ⊢
  by_cases c2 : (Nv.popE x.2.1 (Nv.form i.1).2.1).2 = 0
  · have hno : ¬ (Nv.popE x.2.1 (Nv.form i.1).2.1).2 ≠ 0 := fun h => h c2
    rw [if_neg hno] at h ⊢
    by_cases c3 : (Nv.popE (Nv.popE x.2.1 (Nv.form i.1).2.1).1 (Nv.form i.1).2.2.1).2 = 0
    · have hno2 : ¬ (Nv.popE (Nv.popE x.2.1 (Nv.form i.1).2.1).1 (Nv.form i.1).2.2.1).2 ≠ 0 := fun h => h c3
      rw [if_neg hno2] at h ⊢
      by_cases c4 : i.1 = 7
      · rw [if_pos c4] at h ⊢
        by_cases c5 : Nv.need (Nv.popE (Nv.popE x.2.1 (Nv.form i.1).2.1).1 (Nv.form i.1).2.2.1).1 + Nv.size x.1 > 18
        · rw [if_pos c5] at h; simp at h
        · rw [if_neg c5, if_pos c4]
          exact ⟨c1, c2, c3, fun _ => by omega, rfl⟩
      · rw [if_neg c4, if_neg c4, List.append_nil]
        exact ⟨c1, c2, c3, fun h7 => absurd h7 c4, rfl⟩
    · rw [if_pos c3] at h; exact absurd h c3
  · rw [if_pos c2] at h; exact absurd h c2
theorem exec_sim {i : Ins} {x : Nv.ESt} {g : Nv.Regs} {at_ next : Int} {er : List Int} {c : Nat} (hi : Fits i) (hx : Nv.Good c x) (hs : SimR x g at_) (he : (Nv.stepE i x).2 = 0) :
    (Nv.exec i next er g).2.2.2.2.1 = 0 ∧ SimR (Nv.stepE i x).1 (Nv.exec i next er g).1 next := by
  obtain ⟨k1, k2, k3⟩ := stepE_inv he
  obtain ⟨c1, c2, c3, c4, c5⟩ := modesE_inv k2
  have tb := tbl hi.1.1 hi.1.2
  have fm := forms hi.1.1 hi.1.2
  obtain ⟨w1, _, _⟩ := sp_of hi.1.1 hi.1.2
  obtain ⟨v1, v2, v3, v4, v5⟩ := valid_iff.1 hs.val
  have hmode := hs.mode
  have hlist := hs.list
  have hck : Nv.check i g = 0 := by
    unfold Nv.check Nv.checkF
    have n1 : ¬ (Nv.words i.1 > 0 ∧ i.2.1 + Nv.words i.1 - 1 > 2047) := by rw [w1]; omega
    have n2 : ¬ (((Nv.form i.1).1 ≠ 0 ∧ g.2.1 ≠ (Nv.form i.1).1) ∨ ((Nv.form i.1).2.2.2.2 = true ∧ g.2.1 = 0)) := by
      rw [hmode, tb.push]
      rintro (⟨h1, h2⟩ | h)
      · exact c1 (.inl ⟨h1, fun h => h2 h.symm⟩)
      · exact c1 (.inr h)
    rw [if_neg n1, if_neg n2]
  rw [← hlist] at c2 c3 c4 c5
  obtain ⟨p1, p2, p3, p4, p5⟩ := pops_sim (f := Nv.form i.1) hs.val fm next c2 c3
  have hexec : Nv.exec i next er g = if (Nv.form i.1).2.2.2.1 ≠ 0 then
      (Nv.result i (Nv.popped g next (Nv.top g (Nv.form i.1).2.2.1 1 (Nv.top g (Nv.form i.1).2.1 0 0).2.1).2.1 (Nv.pops (Nv.form i.1).2.1 + Nv.pops (Nv.form i.1).2.2.1))
        (Nv.compute i (Nv.top g (Nv.form i.1).2.1 0 0).1 (Nv.top g (Nv.form i.1).2.2.1 1 (Nv.top g (Nv.form i.1).2.1 0 0).2.1).1 g.2.2.1 er), [], 0, 0, 0, ())
      else Nv.move i (Nv.popped g next (Nv.top g (Nv.form i.1).2.2.1 1 (Nv.top g (Nv.form i.1).2.1 0 0).2.1).2.1 (Nv.pops (Nv.form i.1).2.1 + Nv.pops (Nv.form i.1).2.2.1)) (Nv.held g.2.2.1 g.2.1) := by
    unfold Nv.exec
    have n1 : ¬ Nv.check i g ≠ 0 := fun h => h hck
    have n2 : ¬ (Nv.top g (Nv.form i.1).2.1 0 0).2.2 ≠ 0 := fun h => h p1
    have n3 : ¬ (Nv.top g (Nv.form i.1).2.2.1 1 (Nv.top g (Nv.form i.1).2.1 0 0).2.1).2.2 ≠ 0 := fun h => h p2
    rw [if_neg n1]
    simp only
    rw [if_neg n2, if_neg n3]
  have hL : Nv.need (Nv.popE (Nv.popE g.2.2.2.2.1 (Nv.form i.1).2.1).1 (Nv.form i.1).2.2.1).1 ≤ 18 := by
    have a := Nv.popE_need (l := (Nv.popE g.2.2.2.2.1 (Nv.form i.1).2.1).1) (m := (Nv.form i.1).2.2.1)
    have b := Nv.popE_need (l := g.2.2.2.2.1) (m := (Nv.form i.1).2.1)
    omega
  rw [hexec, k3, c5]
  generalize hP : Nv.popped g next (Nv.top g (Nv.form i.1).2.2.1 1 (Nv.top g (Nv.form i.1).2.1 0 0).2.1).2.1 (Nv.pops (Nv.form i.1).2.1 + Nv.pops (Nv.form i.1).2.2.1) = h at *
  have h0 : h.1 = next := by rw [← hP]; rfl
  have h1 : h.2.1 = g.2.1 := by rw [← hP]; rfl
  have h6 : h.2.2.2.2.2.2 = g.2.2.2.2.2.2 := by rw [← hP]; rfl
  generalize hLL : (Nv.popE (Nv.popE g.2.2.2.2.1 (Nv.form i.1).2.1).1 (Nv.form i.1).2.2.1).1 = L at *
  have hm2 : g.2.1 ≤ 2 := v2
  have hvh : ∀ (q : Nv.Regs), q.2.1 ≤ 2 → q.2.2.2.1 = h.2.2.2.1 → q.2.2.2.2.1 = L → (q.2.2.2.2.2.2.length : Int) ≤ 8 → Nv.valid q = true := fun q a b c d =>
    valid_iff.2 ⟨by rw [c]; exact p5, a, by rw [b, c]; exact p4, by rw [c]; exact hL, d⟩
  by_cases ho : (Nv.form i.1).2.2.2.1 = 0
  · -- the accumulator stays
    have hmv := tb.out.1 ho
    have hno : ¬ (Nv.form i.1).2.2.2.1 ≠ 0 := fun h => h ho
    rw [if_neg hno]
    have om : ∀ m, Nv.outM i m = m := fun m => by unfold Nv.outM; rw [if_neg hno]
    have hm' := moves_iff.1 hmv
    unfold Nv.move Nv.finE
    by_cases e3 : i.1 = 3 ∨ i.1 = 4
    · have n7 : ¬ i.1 = 7 := by omega
      have n33 : ¬ (i.1 = 33 ∨ i.1 = 34 ∨ i.1 = 35) := by omega
      rw [if_pos e3, if_neg n7, List.append_nil, if_neg n33, om]
      exact ⟨rfl, ⟨h0, h1.trans hmode, p3, by rw [h6]; exact hs.outs, hvh h (by omega) rfl p3 (by rw [h6]; exact v5)⟩⟩
    rw [if_neg e3]
    by_cases e7 : i.1 = 7
    · have n33 : ¬ (i.1 = 33 ∨ i.1 = 34 ∨ i.1 = 35) := by omega
      have hroom := c4 e7
      have nf : ¬ ((h.2.2.2.1.length : Int) + Nv.size h.2.1 > 18) := by rw [p4, h1, hmode]; omega
      rw [if_pos e7, if_neg nf, if_pos e7, if_neg n33, om]
      have hx0 : x.1 ≠ 0 := fun hz => c1 (.inr ⟨e7, hz⟩)
      have hxm := hx.mode
      refine ⟨rfl, ⟨h0, h1.trans hmode, by show h.2.2.2.2.1 ++ [h.2.1] = L ++ [x.1]; rw [p3, h1, hmode], by show (h.2.2.2.2.2.2.length : Int) = _; rw [h6]; exact hs.outs, valid_iff.2 ⟨?_, by show h.2.1 ≤ 2; omega, ?_, ?_, ?_⟩⟩⟩
      · show Nv.modesOk (h.2.2.2.2.1 ++ [h.2.1]) = true
        unfold Nv.modesOk at p5 ⊢
        rw [List.all_append, p3, p5, h1, hmode]
        simp only [List.all_cons, List.all_nil, Bool.true_and, Bool.and_true, Bool.or_eq_true, decide_eq_true_eq]; omega
      · show ((h.2.2.2.1 ++ Nv.vals h.2.1 _).length : Int) = Nv.need (h.2.2.2.2.1 ++ [h.2.1])
        rw [List.length_append, Nv.need_append, p3]
        simp only [Nv.need]
        have := vals_len h.2.1 (Nv.held g.2.2.1 g.2.1)
        omega
      · show Nv.need (h.2.2.2.2.1 ++ [h.2.1]) ≤ 18
        rw [Nv.need_append, p3, h1, hmode]
        simp only [Nv.need]; omega
      · show (h.2.2.2.2.2.2.length : Int) ≤ 8
        rw [h6]; exact v5
    rw [if_neg e7, if_neg e7, List.append_nil]
    by_cases e33 : i.1 = 33 ∨ i.1 = 34 ∨ i.1 = 35
    · rw [if_pos e33, if_pos e33]
      have kk := k2
      rw [c5] at kk
      unfold Nv.finE at kk
      rw [if_pos e33] at kk
      by_cases full : x.2.2.2.2.2.1 ≥ 8
      · rw [if_pos full] at kk; simp at kk
      have nf : ¬ (h.2.2.2.2.2.2.length : Int) ≥ 8 := by rw [h6, hs.outs]; exact full
      rw [if_neg full, if_neg nf, om]
      refine ⟨rfl, ⟨h0, h1.trans hmode, p3, ?_, hvh _ (by show h.2.1 ≤ 2; omega) rfl p3 ?_⟩⟩
      · show ((h.2.2.2.2.2.2 ++ [_]).length : Int) = x.2.2.2.2.2.1 + 1
        rw [List.length_append, h6]
        have := hs.outs
        simp only [List.length_cons, List.length_nil]; omega
      · show ((h.2.2.2.2.2.2 ++ [_]).length : Int) ≤ 8
        rw [List.length_append, h6]
        have := hs.outs
        simp only [List.length_cons, List.length_nil]; omega
    rw [if_neg e33, if_neg e33, om]
    have fin : SimR (x.1, L, Nv.addR x.2.2.2.1 i.2.1 (Nv.spR i.1).toNat 0 x.2.2.1, Nv.addW i.2.1 (Nv.spW i.1).toNat 0 x.2.2.2.1, x.2.2.2.2.1 + 1, x.2.2.2.2.2) h next :=
      ⟨h0, h1.trans hmode, p3, by rw [h6]; exact hs.outs, hvh h (by omega) rfl p3 (by rw [h6]; exact v5)⟩
    by_cases e37 : i.1 = 37
    · rw [if_pos e37]; exact ⟨rfl, fin⟩
    rw [if_neg e37]
    by_cases e36 : i.1 = 36
    · rw [if_pos e36]; exact ⟨rfl, fin⟩
    rw [if_neg e36]
    have e38 : i.1 = 38 := by omega
    rw [if_pos e38]; exact ⟨rfl, fin⟩
  · -- a result
    rw [if_pos ho]
    have hmv : ¬ moves i.1 = true := fun h => ho (tb.out.2 h)
    have hno : ¬ (i.1 = 3 ∨ i.1 = 4 ∨ i.1 = 7 ∨ (33 ≤ i.1 ∧ i.1 ≤ 38)) := fun h => hmv (moves_iff.2 h)
    have n7 : ¬ i.1 = 7 := by omega
    have n33 : ¬ (i.1 = 33 ∨ i.1 = 34 ∨ i.1 = 35) := by omega
    rw [if_neg n7, List.append_nil]
    unfold Nv.finE
    rw [if_neg n33]
    have om : Nv.outM i x.1 = (Nv.form i.1).2.2.2.1 := by unfold Nv.outM; rw [if_pos ho]
    refine ⟨rfl, ⟨h0, om.symm, p3, by show (h.2.2.2.2.2.2.length : Int) = _; rw [h6]; exact hs.outs, hvh _ tb.out2 rfl p3 (by show (h.2.2.2.2.2.2.length : Int) ≤ 8; rw [h6]; exact v5)⟩⟩
/-! ### What an instruction depends on -/
theorem exec_dep {i : Ins} {next : Int} {m1 m2 : List Int} {g : Nv.Regs} (hi : Fits i) (h : ∀ k : Int, 0 ≤ k → k < Nv.spR i.1 → Nv.word m1 (i.2.1 + k) = Nv.word m2 (i.2.1 + k)) : Nv.exec i next m1 g = Nv.exec i next m2 g := by
  have key : ∀ p q a h', Nv.result i h' (Nv.compute i p q a m1) = Nv.result i h' (Nv.compute i p q a m2) := fun p q a h' => by
    by_cases h1 : i.1 = 1
    · have r := h 0 (by omega) (by rw [h1]; decide)
      have r1 := h 1 (by omega) (by rw [h1]; decide)
      rw [Int.add_zero] at r
      unfold Nv.compute Nv.result
      have hor : i.1 = 1 ∨ i.1 = 2 := .inl h1
      rw [if_pos hor, if_pos hor]
      have hf : (Nv.form i.1).2.2.2.1 = 1 := by rw [h1]; rfl
      rw [hf]
      have hh : Nv.held (Nv.readV m1 i.2.1) 1 = Nv.held (Nv.readV m2 i.2.1) 1 := by
        unfold Nv.held Nv.readV
        have n1 : ¬ (1 : Int) = 2 := by decide
        rw [if_neg n1, if_neg n1, r, r1]
      simp only [hh]
    · have rd : ∀ d : Int, 0 ≤ d → d + 6 ≤ Nv.spR i.1 → Nv.readV m1 (i.2.1 + d) = Nv.readV m2 (i.2.1 + d) := fun d d0 d1 => by
        unfold Nv.readV
        have e : ∀ k : Int, 0 ≤ k → k < 6 → Nv.word m1 (i.2.1 + d + k) = Nv.word m2 (i.2.1 + d + k) := fun k k0 k1 => by
          have := h (d + k) (by omega) (by omega)
          rw [← Int.add_assoc] at this; exact this
        have e0 := e 0 (by omega) (by omega)
        rw [Int.add_zero] at e0
        rw [e0, e 1 (by omega) (by omega), e 2 (by omega) (by omega), e 3 (by omega) (by omega), e 4 (by omega) (by omega), e 5 (by omega) (by omega)]
      have hc : Nv.compute i p q a m1 = Nv.compute i p q a m2 := by
        unfold Nv.compute
        by_cases h2 : i.1 = 2
        · have := rd 0 (by omega) (by rw [h2]; decide)
          rw [Int.add_zero] at this
          have hor : i.1 = 1 ∨ i.1 = 2 := .inr h2
          rw [if_pos hor, if_pos hor, this]
        by_cases h31 : i.1 = 31 ∨ i.1 = 32
        · have hsp : Nv.spR i.1 = 18 := by rcases h31 with e | e <;> rw [e] <;> rfl
          have a0 := rd 0 (by omega) (by omega)
          rw [Int.add_zero] at a0
          have hr : Nv.rows m1 i.2.1 = Nv.rows m2 i.2.1 := by
            unfold Nv.rows
            rw [a0, rd 6 (by omega) (by omega), rd 12 (by omega) (by omega)]
          rw [hr, a0]
        · have n1 : ¬ (i.1 = 1 ∨ i.1 = 2) := by omega
          have n31 : ¬ i.1 = 31 := fun e => h31 (.inl e)
          have n32 : ¬ i.1 = 32 := fun e => h31 (.inr e)
          simp only [if_neg n1, if_neg n31, if_neg n32]
      rw [hc]
  unfold Nv.exec
  simp only [key]
theorem exec_num {i : Ins} {next : Int} {er : List Int} {g : Nv.Regs} (hi : Fits i) (h0 : (Nv.exec i next er g).2.2.2.2.1 = 0) : (i.1 = 36 → (Nv.exec i next er g).2.2.2.1 = i.2.1) ∧ (i.1 = 37 → (Nv.exec i next er g).2.2.2.1 = i.2.1 ∨ (Nv.exec i next er g).2.2.2.1 = i.2.2.1) := by
  constructor
  · intro h
    obtain ⟨_, e⟩ := exec_move hi (by rw [h]; decide) h0
    rw [e]
    unfold Nv.move
    rw [h]; rfl
  · intro h
    obtain ⟨_, e⟩ := exec_move hi (by rw [h]; decide) h0
    rw [e]
    unfold Nv.move
    simp only [h, show ¬ ((37 : Int) = 3 ∨ (37 : Int) = 4) by decide, show ¬ (37 : Int) = 7 by decide, show ¬ ((37 : Int) = 33 ∨ (37 : Int) = 34 ∨ (37 : Int) = 35) by decide, if_false, if_true]
    split
    · exact .inl rfl
    · exact .inr rfl
/-! ### Memory -/
theorem stCells_other {j : Nat} : ∀ (cs : List Nv.Cell) (m : List Int), (∀ c ∈ cs, c.1.toNat ≠ j) → (stCells m cs).getD j 0 = m.getD j 0
  | [], _, _ => rfl
  | c :: r, m, h => by
    simp only [stCells]
    rw [stCells_other r _ fun c' hc' => h c' (by simp [hc'])]
    have := h c (by simp)
    simp only [List.getD]
    rw [List.getElem?_set_ne this]
theorem stCells_same {j : Nat} : ∀ (cs : List Nv.Cell) (m1 m2 : List Int), m1.length = m2.length → (m1.getD j 0 = m2.getD j 0 ∨ (∃ c ∈ cs, c.1.toNat = j)) → (stCells m1 cs).getD j 0 = (stCells m2 cs).getD j 0
  | [], m1, m2, _, h => by
    rcases h with h | ⟨c, hc, _⟩
    · exact h
    · cases hc
  | c :: r, m1, m2, hl, h => by
    simp only [stCells]
    refine stCells_same r _ _ (by simp [hl]) ?_
    by_cases e : c.1.toNat = j
    · left
      subst e
      simp only [List.getD]
      by_cases hb : c.1.toNat < m1.length
      · rw [List.getElem?_set_self hb, List.getElem?_set_self (by omega)]
      · rw [List.getElem?_eq_none (by simp; omega), List.getElem?_eq_none (by simp; omega)]
    · rcases h with h | ⟨c', hc', hj⟩
      · left
        simp only [List.getD] at h ⊢
        rw [List.getElem?_set_ne e, List.getElem?_set_ne e]; exact h
      · right
        rcases List.mem_cons.1 hc' with rfl | hc'
        · exact absurd hj e
        · exact ⟨c', hc', hj⟩
def wordB (m : List Int) : Prop := ∀ w ∈ m, 0 ≤ w ∧ w ≤ 32767
theorem stCells_words : ∀ (cs : List Nv.Cell) (m : List Int), wordB m → (∀ c ∈ cs, 0 ≤ c.2 ∧ c.2 ≤ 32767) → wordB (stCells m cs)
  | [], _, h, _ => h
  | c :: r, m, h, hc => by
    simp only [stCells]
    refine stCells_words r _ (fun w hw => ?_) fun c' hc' => hc c' (by simp [hc'])
    rcases List.mem_or_eq_of_mem_set hw with hw | rfl
    · exact h w hw
    · exact hc c (by simp)
/-- where an instruction writes -/
theorem wrc_mem {i : Ins} {g : Nv.Regs} (hi : Fits i) (hc : Nv.check i g = 0) : (∀ c ∈ wr i g, (i.2.1 ≤ c.1 ∧ c.1 < i.2.1 + Nv.spW i.1) ∧ 0 ≤ c.1 ∧ 0 ≤ c.2 ∧ c.2 ≤ 32767) ∧ ∀ y, i.2.1 ≤ y → y < i.2.1 + Nv.spW i.1 → ∃ c ∈ wr i g, c.1 = y := by
  obtain ⟨w1, w2⟩ := wr_get (r := g) hi hc
  obtain ⟨_, _, s3⟩ := sp_of hi.1.1 hi.1.2
  rw [← s3] at w1
  constructor
  · intro c hc
    obtain ⟨k, hk, rfl⟩ := List.getElem_of_mem hc
    have := w2 k hk
    have e2 : (wr i g).getD k (0, 0) = (wr i g)[k] := by simp [List.getD, List.getElem?_eq_getElem hk]
    rw [e2] at this
    omega
  · intro y y1 y2
    have hk : (y - i.2.1).toNat < (wr i g).length := by omega
    have := w2 _ hk
    refine ⟨(wr i g)[(y - i.2.1).toNat], List.getElem_mem hk, ?_⟩
    have e2 : (wr i g).getD (y - i.2.1).toNat (0, 0) = (wr i g)[(y - i.2.1).toNat] := by simp [List.getD, List.getElem?_eq_getElem hk]
    rw [e2] at this
    omega
/-! ### Execution -/
/-- one instruction, beside the effect's -/
structure StepOK (code m : List Int) (g : Nv.Regs) (x : Nv.ESt) (at_ : Int) : Prop where
  err : (stepP code m g).2.2.2.2.1 = 0
  sim : SimR (Nv.stepE (decP code at_).1 x).1 (stepP code m g).1 (decP code at_).2.1
  cells : (stepP code m g).2.1 = wr (decP code at_).1 g
  ev : (stepP code m g).2.2.1 = evOf (decP code at_).1.1
  eq : stepP code m g = Nv.exec (decP code at_).1 (decP code at_).2.1 m g
theorem step_ok {code m : List Int} {g : Nv.Regs} {x : Nv.ESt} {at_ : Int} {c : Nat} (hx : Nv.Good c x) (hs : SimR x g at_) (hd : (decP code at_).2.2 = 0) (he : (Nv.stepE (decP code at_).1 x).2 = 0) : StepOK code m g x at_ := by
  obtain ⟨hf, _⟩ := dec_fits hd
  obtain ⟨e1, e2⟩ := exec_sim (next := (decP code at_).2.1) (er := m) hf hx hs he
  have e : stepP code m g = Nv.exec (decP code at_).1 (decP code at_).2.1 m g := by
    unfold stepP
    have hno : ¬ (decP code at_).2.2 ≠ 0 := fun h => h hd
    rw [if_pos hs.val, hs.at', if_neg hno]
  obtain ⟨_, o2, o3⟩ := exec_out hf e1
  exact ⟨by rw [e]; exact e1, by rw [e]; exact e2, by rw [e]; exact o2, by rw [e]; exact o3, e⟩
/-- what Of says of an execution, from a state on -/
structure Runs (code : List Int) (f : Nv.Eff) (x : Nv.ESt) (g : Nv.Regs) (m : List Int) (s : Int) (K : Nat) : Prop where
  steps : x.2.2.2.2.1 + (K : Int) = f.2.2.1
  pos : 1 ≤ K
  ok : (runK (stepP code) K m g s).2.2.2.2.2.1 = 0
  many : (runK (stepP code) K m g s).2.2.2.2.1 = s + K
  outs : ((runK (stepP code) K m g s).2.1.2.2.2.2.2.2.length : Int) = f.2.2.2.1
  event : ((runK (stepP code) K m g s).2.2.1 = 2 ∧ f.2.2.2.2 = []) ∨ ((runK (stepP code) K m g s).2.2.1 = 1 ∧ (runK (stepP code) K m g s).2.2.2.1 ∈ f.2.2.2.2)
  /-- any number of its steps -/
  part : ∀ j, j ≤ K → (runK (stepP code) j m g s).2.2.2.2.2.1 = 0 ∧ (runK (stepP code) j m g s).1.length = 2048 ∧ wordB (runK (stepP code) j m g s).1 ∧ ∀ y : Nat, (y : Int) ∉ f.2.1 → (runK (stepP code) j m g s).1.getD y 0 = m.getD y 0
  /-- another memory that agrees on what is read -/
  dep : ∀ m2 : List Int, m2.length = 2048 → (∀ y : Nat, ((y : Int) ∈ f.1 ∨ (y : Int) ∈ x.2.2.2.1) → m.getD y 0 = m2.getD y 0) →
    (runK (stepP code) K m2 g s).2 = (runK (stepP code) K m g s).2 ∧ ∀ y : Nat, ((y : Int) ∈ f.1 ∨ (y : Int) ∈ f.2.1) → (runK (stepP code) K m g s).1.getD y 0 = (runK (stepP code) K m2 g s).1.getD y 0
theorem word_at {m : List Int} {y : Int} (h : 0 ≤ y) : Nv.word m y = m.getD y.toNat 0 := rfl
theorem runs_ok {code : List Int} {f : Nv.Eff} {a : Int} : ∀ (n : Nat) (at_ : Int) (x : Nv.ESt) (c : Nat) (g : Nv.Regs) (m : List Int) (s : Int), Nv.Good c x → SimR x g at_ → Nv.ofE decP code n x at_ = (f, a, 0) → m.length = 2048 → wordB m →
    (∃ K, Runs code f x g m s K ∧ at_ + (K : Int) ≤ (code.length : Int)) ∧ (∀ y ∈ x.2.2.1, y ∈ f.1) ∧ (∀ y ∈ x.2.2.2.1, y ∈ f.2.1)
  | 0, at_, x, c, g, m, s, hx, hs, ho, hm, hb => by simp [Nv.ofE] at ho
  | n + 1, at_, x, c, g, m, s, hx, hs, ho, hm, hb => by
    unfold Nv.ofE at ho
    by_cases hat : at_ < (code.length : Int)
    · rw [if_pos hat] at ho
      by_cases hd : (decP code at_).2.2 = 0
      · have hno : ¬ (decP code at_).2.2 ≠ 0 := fun h => h hd
        rw [if_neg hno] at ho
        by_cases he : (Nv.stepE (decP code at_).1 x).2 = 0
        · have hno2 : ¬ (Nv.stepE (decP code at_).1 x).2 ≠ 0 := fun h => h he
          rw [if_neg hno2] at ho
          have st : ∀ m' : List Int, StepOK code m' g x at_ := fun m' => step_ok hx hs hd he
          obtain ⟨hf, hnx, hnl, _⟩ := dec_fits hd
          have hlp := len_pos hf.1.1 hf.1.2
          have tb := tbl hf.1.1 hf.1.2
          obtain ⟨_, sk, _⟩ := sp_of hf.1.1 hf.1.2
          have harg : Nv.spR (decP code at_).1.1 + Nv.spW (decP code at_).1.1 > 0 → 0 ≤ (decP code at_).1.2.1 := fun hp => by
            have := Nv.sp_le (decP code at_).1.1
            refine hf.2.2.1 ?_
            rw [sk (by omega)]; decide
          have hg := Nv.stepE_good hx ⟨tb.out2, tb.out0⟩ harg he
          obtain ⟨q1, q2, q3⟩ := stepE_inv he
          have hck : Nv.check (decP code at_).1 g = 0 := by
            have := (st m).err
            rw [(st m).eq] at this
            exact (exec_eq this).1
          obtain ⟨wr1, wr2⟩ := wrc_mem (g := g) hf hck
          have sp := Nv.sp_le (decP code at_).1.1
          -- what is read by then, what is written by then
          have hR : ∀ y, y ∈ (Nv.stepE (decP code at_).1 x).1.2.2.1 ↔ y ∈ x.2.2.1 ∨ ((decP code at_).1.2.1 ≤ y ∧ y < (decP code at_).1.2.1 + Nv.spR (decP code at_).1.1 ∧ y ∉ x.2.2.2.1) := fun y => by
            rw [q3]
            show y ∈ Nv.addR _ _ _ _ _ ↔ _
            rw [Nv.addR_mem, Int.add_zero, Int.toNat_of_nonneg (by omega)]
          have hW : ∀ y, y ∈ (Nv.stepE (decP code at_).1 x).1.2.2.2.1 ↔ y ∈ x.2.2.2.1 ∨ ((decP code at_).1.2.1 ≤ y ∧ y < (decP code at_).1.2.1 + Nv.spW (decP code at_).1.1) := fun y => by
            rw [q3]
            show y ∈ Nv.addW _ _ _ _ ↔ _
            rw [Nv.addW_mem, Int.add_zero, Int.toNat_of_nonneg (by omega)]
          have hSt : (Nv.stepE (decP code at_).1 x).1.2.2.2.2.1 = x.2.2.2.2.1 + 1 := by rw [q3]
          -- the memory behind the instruction
          have hml : ∀ m' : List Int, m'.length = 2048 → (stCells m' (wr (decP code at_).1 g)).length = 2048 := fun m' h => by rw [stCells_len, h]
          have hmb : wordB (stCells m (wr (decP code at_).1 g)) := stCells_words _ _ hb fun c hc => (wr1 c hc).2.2
          have hkeep : ∀ y : Nat, (y : Int) ∉ (Nv.stepE (decP code at_).1 x).1.2.2.2.1 → (stCells m (wr (decP code at_).1 g)).getD y 0 = m.getD y 0 := fun y hy => by
            refine stCells_other _ _ fun c hc e => hy ((hW y).2 (.inr ?_))
            have := wr1 c hc
            omega
          -- the instruction over another memory
          have hdep : ∀ m2 : List Int, (∀ y : Nat, ((y : Int) ∈ (Nv.stepE (decP code at_).1 x).1.2.2.1 ∨ (y : Int) ∈ x.2.2.2.1) → m.getD y 0 = m2.getD y 0) → stepP code m2 g = stepP code m g := fun m2 h2 => by
            rw [(st m2).eq, (st m).eq]
            refine (exec_dep hf fun k k0 k1 => ?_).symm
            have ha := harg (by omega)
            have hy := h2 ((decP code at_).1.2.1 + k).toNat ?_
            · exact hy
            · rw [Int.toNat_of_nonneg (by omega)]
              by_cases hw : (decP code at_).1.2.1 + k ∈ x.2.2.2.1
              · exact .inr hw
              · exact .inl ((hR _).2 (.inr ⟨by omega, by omega, hw⟩))
          by_cases hend : (decP code at_).1.1 = 36 ∨ (decP code at_).1.1 = 37 ∨ (decP code at_).1.1 = 38
          · -- the segment's last instruction
            rw [if_pos hend] at ho
            by_cases hmore : (decP code at_).2.1 < (code.length : Int)
            · rw [if_pos hmore] at ho; simp at ho
            rw [if_neg hmore] at ho
            simp only [Prod.mk.injEq] at ho
            obtain ⟨hfe, _, _⟩ := ho
            have f1 : f.1 = (Nv.stepE (decP code at_).1 x).1.2.2.1 := by rw [← hfe]; rfl
            have f2 : f.2.1 = (Nv.stepE (decP code at_).1 x).1.2.2.2.1 := by rw [← hfe]; rfl
            have f3 : f.2.2.1 = (Nv.stepE (decP code at_).1 x).1.2.2.2.2.1 := by rw [← hfe]; rfl
            have f4 : f.2.2.2.1 = (Nv.stepE (decP code at_).1 x).1.2.2.2.2.2.1 := by rw [← hfe]; rfl
            have hev : evOf (decP code at_).1.1 ≠ 0 := by
              rcases hend with h | h | h <;> rw [h] <;> decide
            have one : ∀ m' : List Int, runK (stepP code) 1 m' g s = (stCells m' (wr (decP code at_).1 g), (stepP code m' g).1, (stepP code m' g).2.2.1, (stepP code m' g).2.2.2.1, s + 1, 0, ()) := fun m' => by
              simp only [runK]
              have n1 : ¬ (stepP code m' g).2.2.2.2.1 ≠ 0 := fun h => h (st m').err
              have n2 : (stepP code m' g).2.2.1 ≠ 0 := by rw [(st m').ev]; exact hev
              rw [if_neg n1, if_pos n2, (st m').cells]
            refine ⟨⟨1, ⟨?_, Nat.le_refl _, ?_, ?_, ?_, ?_, ?_, ?_⟩, by omega⟩, fun y hy => by rw [f1]; exact (hR y).2 (.inl hy), fun y hy => by rw [f2]; exact (hW y).2 (.inl hy)⟩
            · rw [f3, hSt]; rfl
            · rw [one]
            · rw [one]; rfl
            · rw [one, f4]; exact (st m).sim.outs
            · rw [one]
              simp only
              have nn : (Nv.exec (decP code at_).1 (decP code at_).2.1 m g).2.2.2.2.1 = 0 := by have := (st m).err; rwa [(st m).eq] at this
              obtain ⟨n36, n37⟩ := exec_num hf nn
              rw [(st m).ev, (st m).eq, ← hfe]
              unfold Nv.nextE
              simp only
              rcases hend with h | h | h
              · right
                refine ⟨by rw [h]; rfl, ?_⟩
                rw [if_pos h, n36 h]; simp
              · right
                have hno3 : ¬ (decP code at_).1.1 = 36 := by omega
                refine ⟨by rw [h]; rfl, ?_⟩
                rw [if_neg hno3, if_pos h]
                rcases n37 h with e | e <;> rw [e] <;> simp
              · left
                have hno3 : ¬ (decP code at_).1.1 = 36 := by omega
                have hno4 : ¬ (decP code at_).1.1 = 37 := by omega
                refine ⟨by rw [h]; rfl, ?_⟩
                rw [if_neg hno3, if_neg hno4, hg.next]
            · intro j hj
              match j, hj with
              | 0, _ => exact ⟨rfl, hm, hb, fun _ _ => rfl⟩
              | 1, _ => rw [one]; exact ⟨rfl, hml m hm, hmb, fun y hy => hkeep y (by rw [← f2]; exact hy)⟩
            · intro m2 hm2 h2
              have hst := hdep m2 fun y hy => h2 y (by rw [f1]; exact hy)
              rw [one, one, hst]
              refine ⟨rfl, fun y hy => ?_⟩
              refine stCells_same _ _ _ (by rw [hm, hm2]) ?_
              by_cases hxw : (y : Int) ∈ f.1 ∨ (y : Int) ∈ x.2.2.2.1
              · exact .inl (h2 y hxw)
              · have hy2 : (y : Int) ∈ f.2.1 := hy.resolve_left fun h => hxw (.inl h)
                rw [f2] at hy2
                rcases (hW y).1 hy2 with h | ⟨h, h'⟩
                · exact absurd (.inr h) hxw
                · obtain ⟨c, hc, e⟩ := wr2 y h h'
                  exact .inr ⟨c, hc, by omega⟩
          · -- the segment goes on
            rw [if_neg hend] at ho
            have hev : evOf (decP code at_).1.1 = 0 := by
              unfold evOf
              have a1 : ¬ ((decP code at_).1.1 = 36 ∨ (decP code at_).1.1 = 37) := fun h => hend (h.elim .inl fun h => .inr (.inl h))
              have a2 : ¬ (decP code at_).1.1 = 38 := fun h => hend (.inr (.inr h))
              rw [if_neg a1, if_neg a2]
            obtain ⟨⟨K, hK, hKl⟩, s1, s2⟩ := runs_ok n _ _ (c + 1) (stepP code m g).1 (stCells m (wr (decP code at_).1 g)) (s + 1) hg (st m).sim ho (hml m hm) hmb
            have more : ∀ (m' : List Int) (j : Nat), runK (stepP code) (j + 1) m' g s = runK (stepP code) j (stCells m' (wr (decP code at_).1 g)) (stepP code m' g).1 (s + 1) := fun m' j => by
              simp only [runK]
              have n1 : ¬ (stepP code m' g).2.2.2.2.1 ≠ 0 := fun h => h (st m').err
              have n2 : ¬ (stepP code m' g).2.2.1 ≠ 0 := by rw [(st m').ev]; exact fun h => h hev
              rw [if_neg n1, if_neg n2, (st m').cells]
            refine ⟨⟨K + 1, ⟨?_, by omega, ?_, ?_, ?_, ?_, ?_, ?_⟩, by omega⟩, fun y hy => s1 y ((hR y).2 (.inl hy)), fun y hy => s2 y ((hW y).2 (.inl hy))⟩
            · have := hK.steps
              rw [hSt] at this; omega
            · rw [more]; exact hK.ok
            · rw [more, hK.many]; omega
            · rw [more]; exact hK.outs
            · rw [more]; exact hK.event
            · intro j hj
              match j, hj with
              | 0, _ => exact ⟨rfl, hm, hb, fun _ _ => rfl⟩
              | j + 1, hj =>
                rw [more]
                obtain ⟨a1, a2, a3, a4⟩ := hK.part j (by omega)
                exact ⟨a1, a2, a3, fun y hy => (a4 y hy).trans (hkeep y fun h => hy (s2 _ h))⟩
            · intro m2 hm2 h2
              have hst := hdep m2 fun y hy => h2 y (hy.imp (fun h => s1 _ h) id)
              rw [more, more, hst]
              refine hK.dep _ (hml m2 hm2) fun y hy => ?_
              refine stCells_same _ _ _ (by rw [hm, hm2]) ?_
              rcases hy with hy | hy
              · exact .inl (h2 y (.inl hy))
              · rcases (hW y).1 hy with h | ⟨h, h'⟩
                · exact .inl (h2 y (.inr h))
                · obtain ⟨c, hc, e⟩ := wr2 y h h'
                  exact .inr ⟨c, hc, by omega⟩
        · rw [if_pos he] at ho
          simp only [Prod.mk.injEq] at ho
          exact absurd ho.2.2 he
      · rw [if_pos hd] at ho
        simp only [Prod.mk.injEq] at ho
        exact absurd ho.2.2 hd
    · rw [if_neg hat] at ho; simp at ho
/-! ### From the start -/
theorem start_sim : SimR Nv.est0 (start 0) 0 := ⟨rfl, rfl, rfl, rfl, by decide⟩
theorem memOf_words (er : List Int) : wordB (memOf er) := fun w hw => by
  unfold memOf at hw
  obtain ⟨i, _, rfl⟩ := List.mem_map.1 hw
  omega
theorem memOf_get (er : List Int) (y : Nat) (h : y < 2048) : (memOf er).getD y 0 = er.getD y 0 % 32768 := by
  unfold memOf Nv.word
  simp [List.getD, h]
theorem memOf_self {m : List Int} (hl : m.length = 2048) (hb : wordB m) : memOf m = m := by
  refine List.ext_getElem? fun t => ?_
  by_cases h : t < 2048
  · have h1 : (memOf m)[t]? = some ((memOf m).getD t 0) := by simp [List.getD, mem_len, h]
    have h2 : m[t]? = some (m.getD t 0) := by simp [List.getD, hl, h]
    rw [h1, h2, memOf_get m t h]
    have := hb (m.getD t 0) (by rw [show m.getD t 0 = m[t] by simp [List.getD, hl, h]]; exact List.getElem_mem _)
    congr 1; omega
  · rw [List.getElem?_eq_none (by rw [mem_len]; omega), List.getElem?_eq_none (by omega)]
/-- an execution of a segment that Of accepts -/
structure Whole (code : List Int) (f : Nv.Eff) (er : List Int) : Prop where
  many : 1 ≤ f.2.2.1 ∧ f.2.2.1 ≤ 1024
  run : Runs code f Nv.est0 (start 0) (memOf er) 0 f.2.2.1.toNat
theorem whole {code : List Int} (h : (Nv.ofP decP code).2.2 = 0) (er : List Int) : Whole code (Nv.ofP decP code).1 er := by
  unfold Nv.ofP at h ⊢
  by_cases hl : (code.length : Int) > 1024
  · rw [if_pos hl] at h; simp at h
  rw [if_neg hl] at h ⊢
  obtain ⟨⟨K, hK, hKl⟩, _⟩ := runs_ok (code := code) (code.length + 1) 0 Nv.est0 0 (start 0) (memOf er) 0 Nv.Good.start start_sim
    (f := (Nv.ofE decP code (code.length + 1) Nv.est0 0).1) (a := (Nv.ofE decP code (code.length + 1) Nv.est0 0).2.1) (Prod.ext rfl (Prod.ext rfl h)) (mem_len er) (memOf_words er)
  have hs := hK.steps
  have hp := hK.pos
  have e0 : Nv.est0.2.2.2.2.1 = 0 := rfl
  rw [e0] at hs
  have hk : (Nv.ofE decP code (code.length + 1) Nv.est0 0).1.2.2.1.toNat = K := by omega
  exact ⟨⟨by omega, by omega⟩, by rw [hk]; exact hK⟩
theorem runP_eq {code er : List Int} {most : Int} (h : 0 ≤ most ∧ most ≤ 10000) : runP code er 0 most = runK (stepP code) most.toNat (memOf er) (start 0) 0 := by
  unfold runP
  have hno : ¬ (most < 0 ∨ most > 10000) := by omega
  rw [if_neg hno]
end Go.Pv
/-! ### sameOuts, the laws EffectRuns and EffectRepeats: as the code says it. -/
namespace Go.Pv.Ef
open Go.Proofs
set_option maxRecDepth 1000000
@[reducible] def tOs : Ty := .slice tOut
@[reducible] def sOO : Sig := [.val tOs, .val tOs]
def eqD (x y : Db) : Bool := x.1 == y.1 && (x.2 == y.2 && true)
def eqO (x y : Nv.Out) : Bool := x.1 == y.1 && (x.2.1 == y.2.1 && (eqD x.2.2 y.2.2 && true))
def loopO : LoopSpec := ⟨0, [(0, .val tOs), (1, .val tOs), (5, .val tI)], [], [(4, .val .bool)]⟩
abbrev XO := List Nv.Out × List Nv.Out × Int × Unit
noncomputable def SO : XO → Option (XO ⊕ (Unit ⊕ (Bool × Unit))) := stepE tt call0 Tryz.f10.ntmps (loopHook tt call0 Tryz.f10.ntmps 100000 [loopO] 4) 100000 loopO ((loopBody 0 ((Tryz.f10.body).getD .skip)).getD .skip)
theorem SO_eq (p q : List Nv.Out) (i : Int) : SO (p, q, i, ()) = bif decide (i < (p.length : Int)) then bif inRange i p.length then bif inRange i q.length then
    bif !(eqO (p.getD i.toNat (0, 0, (0, 0))) (q.getD i.toNat (0, 0, (0, 0)))) then some (.inr (.inr (false, ()))) else some (.inl (p, q, w64 (i + 1), ()))
    else none else none else some (.inr (.inl ())) := by kernel_rfl
theorem eO_eq (p q : List Nv.Out) : evalF Tryz.prog tt call0 [loopO] 10 sOO [.val .bool] (p, q, ()) = bif (p.length : Int) != (q.length : Int) then some (false, ()) else
    match lim SO (p, q, 0, ()) with
    | none => none
    | some (.inl _) => some (true, ())
    | some (.inr y) => some (y.1, ()) := by kernel_rfl
structure GL where
  of : List Int → Eff5 × Int × Int
  dOf : List Int → Bool
  run : List Int → List Int → Int → Fin
  dRun : List Int → Bool
  inn : List Int → Int → Bool
  dInn : List Int → Bool
  outs : List Nv.Out → List Nv.Out → Bool
  dOuts : List Nv.Out → List Nv.Out → Bool
  safe : Eff5 → Bool
  dSafe : Eff5 → Bool
  chk : List Int → Int
  sameW : List Int → List Int → Bool
  dSameW : List Int → List Int → Bool
def specsL (g : GL) (R : Type) (fn : FuncId) : Option (List V → Mem → Nat → (Eff → Option R) → Option R) :=
  match fn with
  | 6 => some (specL sC1 rOf fun x => bif g.dOf x.1 then some ((g.of x.1).1, (g.of x.1).2.1, (g.of x.1).2.2, ()) else none)
  | 7 => some (specL [] [Sl.val 0 .bool] fun _ => some (true, ()))
  | 8 => some (specL sRun rRun fun x => bif decide (x.2.2.1 = 0) && g.dRun x.1 then some (g.run x.1 x.2.1 x.2.2.2.1) else none)
  | 9 => some (specD sLN [.val .bool] (fun x => g.dInn x.1) fun x => (g.inn x.1 x.2.1, ()))
  | 10 => some (specL sOO [Sl.val 0 .bool] fun x => bif g.dOuts x.1 x.2.1 then some (g.outs x.1 x.2.1, ()) else none)
  | 11 => some (specL sC1 [Sl.val 0 tI] fun x => bif g.dOf x.1 then some (g.chk x.1, ()) else none)
  | 12 => some (specL sE1 [Sl.val 0 .bool] fun x => bif g.dSafe x.1 then some (g.safe x.1, ()) else none)
  | 13 => some (specL [.val tWs, .val tWs] [Sl.val 0 .bool] fun x => bif g.dSameW x.1 x.2.1 then some (g.sameW x.1 x.2.1, ()) else none)
  | _ => none
noncomputable def callL (g : GL) (R : Type) : CallE R := callsE Tryz.prog tt (specsL g R) 20
def ofL {β : Type} (g : GL) (c : List Int) (k : Eff5 × Int × Int × Unit → Option β) : Option β := getQ (g.dOf c) ((g.of c).1, (g.of c).2.1, (g.of c).2.2, ()) k
def orF (b : Bool) (k : OB) : OB := bif b then some (false, ()) else k
/-! ### EffectRuns -/
def lw3 : LoopT := ⟨0, [Sl.val 1 tWs, Sl.box 5 trEff, Sl.row 8 tW, Sl.val 14 tI], [], [Sl.val 4 .bool]⟩
abbrev X3 := List Int × Eff5 × List Int × Int × Unit
abbrev O3 := Option (X3 ⊕ (Unit ⊕ (Bool × Unit)))
noncomputable def S3 (g : GL) : X3 → O3 := stepT tt (callL g) Tryz.f3.ntmps (hookT tt (callL g) 100000 [lw3] [] Tryz.f3.ntmps 4) 100000 lw3 ((loopBody 0 ((Tryz.f3.body).getD .skip)).getD .skip)
def cmp3 (g : GL) (mem : List Int) (f : Eff5) (out : List Int) (i was : Int) : O3 :=
  bif inRange i out.length then bif out.getD i.toNat 0 != was then onlyQ (g.dInn f.2.1) (bif !(g.inn f.2.1 i) then some (.inr (.inr (false, ()))) else some (.inl (mem, f, out, w64 (i + 1), ()))) else some (.inl (mem, f, out, w64 (i + 1), ())) else none
theorem S3_eq (g : GL) (mem : List Int) (f : Eff5) (out : List Int) (i : Int) : S3 g (mem, f, out, i, ()) =
    bif decide (i < (out.length : Int)) then bif decide (i < (mem.length : Int)) then bif inRange i mem.length then cmp3 g mem f out i ((mem.getD i.toNat 0).tmod 32768) else none else cmp3 g mem f out i 0
    else some (.inr (.inl ())) := by kernel_rfl
noncomputable def loop3 (g : GL) (mem : List Int) (f : Eff5) (out : List Int) : OB := match lim (S3 g) (mem, f, out, 0, ()) with
  | none => none
  | some (.inl _) => some (true, ())
  | some (.inr y) => some (y.1, ())
def last3 (g : GL) (f : Eff5) (ev n : Int) (k : OB) : OB := bif decide ((f.2.2.2.2.length : Int) > 0) then orF (ev != 1) (onlyQ (g.dInn f.2.2.2.2) (orF (!(g.inn f.2.2.2.2 n)) k)) else k
def event3 (g : GL) (f : Eff5) (ev n : Int) (k : OB) : OB := bif (f.2.2.2.2.length : Int) == 0 then orF (ev != 2) (last3 g f ev n k) else last3 g f ev n k
theorem e3_eq (g : GL) (c m : List Int) : evalT Tryz.prog tt (callL g) [lw3] [] 3 [.val tWs, .val tWs] [Sl.val 0 .bool] (c, m, ()) =
    ofL g c fun f => bif f.2.2.1 != 0 then some (true, ()) else getQ (g.dRun c) (g.run c m f.1.2.2.1) fun r =>
      orF (r.2.2.2.2.2.1 != 0) (orF (r.2.2.2.2.1 != f.1.2.2.1) (orF ((r.2.1.2.2.2.2.2.2.length : Int) != f.1.2.2.2.1) (orF ((r.1.length : Int) != 2048) (event3 g f.1 r.2.2.1 r.2.2.2.1 (loop3 g m f.1 r.1))))) := by kernel_rfl
/-! ### EffectRepeats -/
def partL (k s : Int) : Option Int := bif decide (IntKind.u64.wrap (w64 (s + 1)) = 0) then none else some (w64 ((IntKind.u64.wrap k).tmod (IntKind.u64.wrap (w64 (s + 1)))))
def modL {β : Type} (k s : Int) (q : Int → Option β) : Option β := bif decide (IntKind.u64.wrap (w64 (s + 1)) = 0) then none else q (w64 ((IntKind.u64.wrap k).tmod (IntKind.u64.wrap (w64 (s + 1)))))
def rep5 (g : GL) (c m : List Int) (f : Eff5) (part : Int) : OB := getQ (g.dRun c) (g.run c m part) fun r => orF (r.2.2.2.2.2.1 != 0)
  (getQ (g.dRun c) (g.run c r.1 f.2.2.1) fun p => getQ (g.dRun c) (g.run c m f.2.2.1) fun q => andQ (p.2.2.2.2.2.1 == 0) (andQ (q.2.2.2.2.2.1 == 0) (andQ (p.2.2.1 == q.2.2.1) (andQ (p.2.2.2.1 == q.2.2.2.1)
    (askQ (g.dOuts p.2.1.2.2.2.2.2.2 q.2.1.2.2.2.2.2.2) (g.outs p.2.1.2.2.2.2.2.2 q.2.1.2.2.2.2.2.2) fun b => andQ b (askQ (g.dSameW p.1 q.1) (g.sameW p.1 q.1) fun b => andQ b (some (true, ()))))))))
theorem e5_eq (g : GL) (c m : List Int) (k : Int) : evalT Tryz.prog tt (callL g) [] [] 5 [.val tWs, .val tWs, .val tI] [Sl.val 0 .bool] (c, m, k, ()) =
    ofL g c fun f => askQ (g.dOf c) (g.chk c) fun e => bif e != 0 then (bif f.2.2.1 != 0 then some (true, ()) else askQ (g.dSafe f.1) (g.safe f.1) fun s => andQ (!s) (some (true, ()))) else
      orF (decide (f.1.2.2.1 < 1)) (orF (decide (f.1.2.2.1 > 1024)) (modL k f.1.2.2.1 (rep5 g c m f.1))) := by kernel_rfl
end Go.Pv.Ef
/-! ### The laws EffectRuns and EffectRepeats return true. -/
namespace Go.Pv.Ef
open Go.Proofs
set_option maxRecDepth 1000000
theorem eqD_self (x : Db) : eqD x x = true := by simp [eqD]
theorem eqO_self (x : Nv.Out) : eqO x x = true := by simp [eqO, eqD_self]
theorem outs_loop (l : List Nv.Out) (hl : l.length ≤ 1000000000) : ∀ (n i : Nat), i + n = l.length → lim SO (l, l, (i : Int), ()) = some (.inl ())
  | 0, i, h => by
    refine lim_end ?_
    rw [SO_eq, decide_eq_false (show ¬ (i : Int) < (l.length : Int) by omega), cond_false]
  | n + 1, i, h => by
    have hs : SO (l, l, (i : Int), ()) = some (.inl (l, l, ((i + 1 : Nat) : Int), ())) := by
      rw [SO_eq, decide_eq_true (show (i : Int) < (l.length : Int) by omega), inR (by omega), cond_true, cond_true, cond_true, eqO_self, Bool.not_true, cond_false, w64_small (by omega) (by omega)]; rfl
    rw [lim_next hs]
    exact outs_loop l hl n (i + 1) (by omega)
theorem outs_self (l : List Nv.Out) (hl : l.length ≤ 1000000000) : evalF Tryz.prog tt call0 [loopO] 10 sOO [.val .bool] (l, l, ()) = some (true, ()) := by
  rw [eO_eq]
  have h : lim SO (l, l, 0, ()) = _ := outs_loop l hl l.length 0 (by omega)
  rw [h, show ((l.length : Int) != (l.length : Int)) = false by simp, cond_false]
def dOuts (a b : List Nv.Out) : Bool := decide (a = b) && Nat.ble a.length big9
theorem fnOuts : FnOK Tryz.prog 10 sOO [.val .bool] fun x => bif dOuts x.1 x.2.1 then some (true, ()) else none := fnDom fun x hx => by
  obtain ⟨a, b, ⟨⟩⟩ := x
  simp only [dOuts, Bool.and_eq_true, decide_eq_true_eq] at hx
  obtain ⟨rfl, h2⟩ := hx
  exact ⟨_, call0_ok, _, outs_self a (Nat.le_of_ble_eq_true h2)⟩
theorem FnT.of' {f : FuncId} {sa : Sig} {sr : TSh} {F F' : sa.den → Option sr.den} (h : FnT Tryz.prog f sa sr F) (hh : ∀ x y, F' x = some y → F x = some y) : FnT Tryz.prog f sa sr F' := fun x y e => h x y (hh x y e)
theorem fnRun : FnT Tryz.prog 8 sRun rRun fun x => bif decide (x.2.2.1 = 0) && inOKb x.1 then some (runP x.1 x.2.1 0 x.2.2.2.1) else none := FnT.of' fn12 fun x y h => by
  obtain ⟨c, m, a, n, ⟨⟩⟩ := x
  change (bif decide (a = 0) && inOKb c then some (runP c m 0 n) else none) = some y at h
  show (bif inOKb c then some (runP c m a n) else none) = some y
  cases hb : decide (a = 0) && inOKb c with
  | false => rw [hb] at h; cases h
  | true =>
    rw [hb] at h
    simp only [Bool.and_eq_true, decide_eq_true_eq] at hb
    obtain ⟨rfl, h2⟩ := hb
    rw [h2]; exact h
def gL3 : GL := ⟨Nv.ofP decP, wdsOk, fun c m n => runP c m 0 n, inOKb, Nv.inB, short big9, fun _ _ => true, dOuts, Nv.safeP, dSafe, Nv.checkP decP, fun _ _ => true, dSameW⟩
theorem okL (R : Type) : CallsOK Tryz.prog (callL gL3 R) := callsE_ok tt_ok mixed names (fun fn s hs => by
  unfold specsL at hs
  split at hs
  · cases hs; exact specL_ok fnOf6 (cntN 6 (by kernel_rfl))
  · cases hs; exact specL_ok fnLive14 (cntN 7 (by kernel_rfl))
  · cases hs; exact specL_ok fnRun (cntN 8 (by kernel_rfl))
  · cases hs; exact specD_ok fnIn flat_bool (cntN 9 (by kernel_rfl))
  · cases hs; exact specL_ok fnOuts.toT (cntN 10 (by kernel_rfl))
  · cases hs; exact specL_ok fnChk11 (cntN 11 (by kernel_rfl))
  · cases hs; exact specL_ok fnSafe10 (cntN 12 (by kernel_rfl))
  · cases hs; exact specL_ok fnSameW.toT (cntN 13 (by kernel_rfl))
  · cases hs) 20
theorem orF_ok {b : Bool} {k : OB} (h : b = false) : orF b k = k := by subst h; rfl
theorem ine_self (a : Int) : (a != a) = false := by simp
theorem of_len {c : List Int} (h : (Nv.ofP decP c).2.2 = 0) : c.length ≤ 1024 := by
  unfold Nv.ofP at h
  by_cases hl : (c.length : Int) > 1024
  · rw [if_pos hl] at h; simp at h
  · omega
theorem tmod_pos {a : Int} (h : 0 ≤ a) : a.tmod 32768 = a % 32768 := Int.tmod_eq_emod_of_nonneg h
theorem inB_iff {l : List Int} {n : Int} : Nv.inB l n = true ↔ n ∈ l := by unfold Nv.inB; simp
theorem loop3_ok {m : List Int} {f : Eff5} {out : List Int} (hm : ∀ w ∈ m, 0 ≤ w) (hf : f.2.1.length ≤ 100000) (hl : out.length = 2048) (ho : ∀ y : Nat, (y : Int) ∉ f.2.1 → out.getD y 0 = (memOf m).getD y 0) :
    ∀ (n i : Nat), i + n = 2048 → lim (S3 gL3) (m, f, out, (i : Int), ()) = some (.inl ())
  | 0, i, h => by
    refine lim_end ?_
    rw [S3_eq, decide_eq_false (show ¬ (i : Int) < (out.length : Int) by omega), cond_false]
  | n + 1, i, h => by
    have hc : ∀ was, was = (memOf m).getD i 0 → cmp3 gL3 m f out (i : Int) was = some (.inl (m, f, out, ((i + 1 : Nat) : Int), ())) := fun was hw => by
      unfold cmp3
      rw [inR (by omega), cond_true, Int.toNat_natCast, w64_small (by omega) (by omega)]
      by_cases he : out.getD i 0 = was
      · rw [show (out.getD i 0 != was) = false by rw [he]; simp, cond_false]; rfl
      · rw [show (out.getD i 0 != was) = true by simpa using he, cond_true]
        have hd : gL3.dInn f.2.1 = true := short_iff.2 (show f.2.1.length ≤ 1000000000 by omega)
        have hin : gL3.inn f.2.1 (i : Int) = true := inB_iff.2 (Decidable.byContradiction fun hno => he ((ho i hno).trans hw.symm))
        unfold onlyQ
        rw [hd, cond_true, hin, Bool.not_true, cond_false]; rfl
    have hs : S3 gL3 (m, f, out, (i : Int), ()) = some (.inl (m, f, out, ((i + 1 : Nat) : Int), ())) := by
      rw [S3_eq, decide_eq_true (show (i : Int) < (out.length : Int) by omega), cond_true]
      by_cases hi : i < m.length
      · rw [decide_eq_true (show (i : Int) < (m.length : Int) by omega), cond_true, inR hi, cond_true, Int.toNat_natCast]
        refine hc _ ?_
        rw [memOf_get m i (by omega)]
        refine tmod_pos ?_
        rw [show m.getD i 0 = m[i] by simp [List.getD, hi]]
        exact hm _ (List.getElem_mem hi)
      · rw [decide_eq_false (show ¬ (i : Int) < (m.length : Int) by omega), cond_false]
        refine hc _ ?_
        rw [memOf_get m i (by omega), show m.getD i 0 = 0 by simp [List.getD, List.getElem?_eq_none (Nat.not_lt.1 hi)]]; rfl
    rw [lim_next hs]
    exact loop3_ok hm hf hl ho n (i + 1) (by omega)
theorem runs_true {c m : List Int} (hc : wdsOk c = true) (hm : ∀ w ∈ m, 0 ≤ w) : evalT Tryz.prog tt (callL gL3) [lw3] [] 3 [.val tWs, .val tWs] [Sl.val 0 .bool] (c, m, ()) = some (true, ()) := by
  rw [e3_eq]
  refine (getQ_ok (show gL3.dOf c = true from hc)).trans ?_
  show (bif (Nv.ofP decP c).2.2 != 0 then some (true, ()) else _) = _
  by_cases he : (Nv.ofP decP c).2.2 = 0
  · rw [he, show ((0 : Int) != 0) = false by rfl, cond_false]
    have W := whole he m
    have hin := wdsOk_in hc (of_len he)
    refine (getQ_ok (show gL3.dRun c = true from hin)).trans ?_
    have hrun : gL3.run c m (gL3.of c).1.2.2.1 = runK (stepP c) (Nv.ofP decP c).1.2.2.1.toNat (memOf m) (start 0) 0 := runP_eq (show 0 ≤ (Nv.ofP decP c).1.2.2.1 ∧ (Nv.ofP decP c).1.2.2.1 ≤ 10000 by have := W.many; omega)
    simp only
    rw [hrun]
    have hf := ofP_fine c
    have hr := W.run
    have hmany := W.many
    obtain ⟨_, p2, p3, p4⟩ := hr.part _ (Nat.le_refl _)
    show orF _ (orF _ (orF _ (orF _ (event3 gL3 (Nv.ofP decP c).1 _ _ (loop3 gL3 m (Nv.ofP decP c).1 _))))) = _
    generalize hR : runK (stepP c) (Nv.ofP decP c).1.2.2.1.toNat (memOf m) (start 0) 0 = r at *
    have h1 := hr.ok
    have h2 := hr.many
    have h3 := hr.outs
    have h4 := hr.event
    rw [hR] at h1 h2 h3 h4
    have hst : r.2.2.2.2.1 = (Nv.ofP decP c).1.2.2.1 := by rw [h2, Int.zero_add, Int.toNat_of_nonneg (by omega)]
    have hloop : loop3 gL3 m (Nv.ofP decP c).1 r.1 = some (true, ()) := by
      unfold loop3
      have hl : lim (S3 gL3) (m, (Nv.ofP decP c).1, r.1, 0, ()) = some (.inl ()) := loop3_ok hm hf.wlen p2 p4 2048 0 (by omega)
      rw [hl]
    have hnl := hf.next
    have dn : gL3.dInn (Nv.ofP decP c).1.2.2.2.2 = true := short_iff.2 (show (Nv.ofP decP c).1.2.2.2.2.length ≤ 1000000000 by omega)
    refine (orF_ok (by rw [h1]; rfl)).trans ((orF_ok (by show (r.2.2.2.2.1 != (Nv.ofP decP c).1.2.2.1) = false; rw [hst]; exact ine_self _)).trans ((orF_ok (by show ((r.2.1.2.2.2.2.2.2.length : Int) != (Nv.ofP decP c).1.2.2.2.1) = false; rw [h3]; exact ine_self _)).trans ((orF_ok (by rw [p2]; rfl)).trans ?_)))
    unfold event3
    rcases h4 with ⟨e1, e2⟩ | ⟨e1, e2⟩
    · rw [e2, show (((([] : List Int).length : Nat) : Int) == 0) = true by rfl, cond_true, e1]
      refine (orF_ok rfl).trans ?_
      unfold last3
      rw [e2, show decide (((([] : List Int).length : Nat) : Int) > 0) = false by rfl, cond_false]
      exact hloop
    · have hne : (Nv.ofP decP c).1.2.2.2.2.length ≠ 0 := fun h0 => by rw [List.length_eq_zero_iff.1 h0] at e2; cases e2
      rw [beq_eq_false_iff_ne.2 (show ((Nv.ofP decP c).1.2.2.2.2.length : Int) ≠ 0 by omega), cond_false]
      unfold last3
      rw [decide_eq_true (show ((Nv.ofP decP c).1.2.2.2.2.length : Int) > 0 by omega), cond_true, e1]
      refine (orF_ok rfl).trans ?_
      unfold onlyQ
      rw [dn, cond_true]
      exact (orF_ok (by show (!(Nv.inB _ _)) = false; rw [inB_iff.2 e2]; rfl)).trans hloop
  · rw [show ((Nv.ofP decP c).2.2 != 0) = true by simpa using he, cond_true]
/-! ### EffectRepeats -/
theorem safe_apart {f : Nv.Eff} (h : Nv.safeP f = true) : ∀ y ∈ f.1, y ∉ f.2.1 := fun y h1 h2 => by
  unfold Nv.safeP at h
  have h0 : (Nv.common f.1 f.2.1).length = 0 := by simpa using h
  obtain ⟨_, k⟩ := Nv.comR_spec f.2.1 f.1 [] List.Pairwise.nil
  have hm : y ∈ Nv.common f.1 f.2.1 := (k y).2 (.inr ⟨h1, h2⟩)
  rw [List.length_eq_zero_iff.1 h0] at hm; cases hm
theorem u64_small {n : Int} (h1 : 0 ≤ n) (h2 : n ≤ 9000000000000000000) : IntKind.u64.wrap n = n := by
  unfold IntKind.wrap IntKind.bits IntKind.signed
  simp only [Bool.false_and, Bool.false_eq_true, if_false]
  have e : (2 : Int) ^ 64 = 18446744073709551616 := by decide
  rw [e]; omega
theorem u64_pos (n : Int) : 0 ≤ IntKind.u64.wrap n := by
  unfold IntKind.wrap IntKind.bits IntKind.signed
  simp only [Bool.false_and, Bool.false_eq_true, if_false]
  have e : (2 : Int) ^ 64 = 18446744073709551616 := by decide
  rw [e]; omega
theorem modL_ok {β : Type} {k s : Int} {q : Int → Option β} (h : 1 ≤ s ∧ s ≤ 1024) : ∃ p : Int, (0 ≤ p ∧ p ≤ s) ∧ modL k s q = q p := by
  have e1 : w64 (s + 1) = s + 1 := w64_small (by omega) (by omega)
  have e2 : IntKind.u64.wrap (s + 1) = s + 1 := u64_small (by omega) (by omega)
  have hp := u64_pos k
  unfold modL
  rw [e1, e2, decide_eq_false (show ¬ s + 1 = 0 by omega), cond_false, Int.tmod_eq_emod_of_nonneg hp]
  have hm1 := Int.emod_nonneg (IntKind.u64.wrap k) (show s + 1 ≠ 0 by omega)
  have hm2 := Int.emod_lt_of_pos (IntKind.u64.wrap k) (show 0 < s + 1 by omega)
  exact ⟨IntKind.u64.wrap k % (s + 1), by omega, by rw [w64_small (by omega) (by omega)]⟩
theorem repeats_true {c m : List Int} {k : Int} (hc : wdsOk c = true) : evalT Tryz.prog tt (callL gL3) [] [] 5 [.val tWs, .val tWs, .val tI] [Sl.val 0 .bool] (c, m, k, ()) = some (true, ()) := by
  rw [e5_eq]
  refine (getQ_ok (show gL3.dOf c = true from hc)).trans ((askQ_ok (show gL3.dOf c = true from hc)).trans ?_)
  show (bif Nv.checkP decP c != 0 then (bif (Nv.ofP decP c).2.2 != 0 then some (true, ()) else askQ (dSafe (Nv.ofP decP c).1) (Nv.safeP (Nv.ofP decP c).1) fun s => andQ (!s) (some (true, ()))) else _) = _
  have hf := ofP_fine c
  by_cases he : (Nv.ofP decP c).2.2 = 0
  · by_cases hs : Nv.safeP (Nv.ofP decP c).1 = true
    · have hch : Nv.checkP decP c = 0 := by
        unfold Nv.checkP
        have hno : ¬ ((Nv.ofP decP c).2.2 = 0 ∧ Nv.safeP (Nv.ofP decP c).1 = false) := fun h => by rw [hs] at h; cases h.2
        rw [if_neg hno, he]
      rw [hch, show ((0 : Int) != 0) = false by rfl, cond_false]
      have W := whole he m
      have hin := wdsOk_in hc (of_len he)
      have hr := W.run
      have hmany := W.many
      have hst : (gL3.of c).1 = (Nv.ofP decP c).1 := rfl
      have hap := safe_apart hs
      have ho8 := hf.outs
      simp only
      rw [hst]
      generalize hF : (Nv.ofP decP c).1 = f at *
      refine (orF_ok (decide_eq_false (show ¬ f.2.2.1 < 1 by omega))).trans ((orF_ok (decide_eq_false (show ¬ f.2.2.1 > 1024 by omega))).trans ?_)
      obtain ⟨part, hpart, hmod⟩ := modL_ok (k := k) (q := rep5 gL3 c m f) hmany
      refine hmod.trans ?_
      unfold rep5
      have dr : gL3.dRun c = true := hin
      have r1 : gL3.run c m part = runK (stepP c) part.toNat (memOf m) (start 0) 0 := runP_eq (by omega)
      refine (getQ_ok dr).trans ?_
      rw [r1]
      obtain ⟨a1, a2, a3, a4⟩ := hr.part part.toNat (by omega)
      generalize runK (stepP c) part.toNat (memOf m) (start 0) 0 = r at *
      refine (orF_ok (by rw [a1]; rfl)).trans ?_
      have r2 : gL3.run c r.1 f.2.2.1 = runK (stepP c) f.2.2.1.toNat r.1 (start 0) 0 := (runP_eq (by omega)).trans (by rw [memOf_self a2 a3])
      have r3 : gL3.run c m f.2.2.1 = runK (stepP c) f.2.2.1.toNat (memOf m) (start 0) 0 := runP_eq (by omega)
      refine (getQ_ok dr).trans ((getQ_ok dr).trans ?_)
      rw [r2, r3]
      have W2 := whole he r.1
      rw [hF] at W2
      have hr2 := W2.run
      rw [memOf_self a2 a3] at hr2
      obtain ⟨d1, d2⟩ := hr.dep r.1 a2 fun y hy => by
        rcases hy with hy | hy
        · exact (a4 y (hap _ hy)).symm
        · cases hy
      obtain ⟨_, b2, b3, b4⟩ := hr.part f.2.2.1.toNat (Nat.le_refl _)
      obtain ⟨_, c2, c3, c4⟩ := hr2.part f.2.2.1.toNat (Nat.le_refl _)
      have hok := hr.ok
      have hou := hr.outs
      have hmem : (runK (stepP c) f.2.2.1.toNat r.1 (start 0) 0).1 = (runK (stepP c) f.2.2.1.toNat (memOf m) (start 0) 0).1 := by
        refine List.ext_getElem? fun y => ?_
        by_cases hy : y < 2048
        · have g1 : ∀ l : List Int, l.length = 2048 → l[y]? = some (l.getD y 0) := fun l hl => by simp [List.getD, hl, hy]
          rw [g1 _ c2, g1 _ b2]
          congr 1
          by_cases hw : (y : Int) ∈ f.2.1
          · exact (d2 y (.inr hw)).symm
          · rw [c4 y hw, b4 y hw, a4 y hw]
        · rw [List.getElem?_eq_none (by omega), List.getElem?_eq_none (by omega)]
      have hall : runK (stepP c) f.2.2.1.toNat r.1 (start 0) 0 = runK (stepP c) f.2.2.1.toNat (memOf m) (start 0) 0 := Prod.ext hmem d1
      rw [hall]
      generalize runK (stepP c) f.2.2.1.toNat (memOf m) (start 0) 0 = q at *
      have dO : gL3.dOuts q.2.1.2.2.2.2.2.2 q.2.1.2.2.2.2.2.2 = true := by
        show dOuts _ _ = true
        unfold dOuts
        rw [decide_eq_true rfl, Bool.true_and]
        exact Nat.ble_eq_true_of_le (by unfold big9; omega)
      have dW : gL3.dSameW q.1 q.1 = true := by
        show dSameW _ _ = true
        unfold dSameW
        rw [decide_eq_true rfl, Bool.true_and]
        exact short_iff.2 (by unfold big9; omega)
      have hz : (q.2.2.2.2.2.1 == 0) = true := by rw [hok]; rfl
      exact (andQ_ok hz).trans ((andQ_ok hz).trans ((andQ_ok (ieq_self _)).trans ((andQ_ok (ieq_self _)).trans ((askQ_ok dO).trans ((andQ_ok rfl).trans ((askQ_ok dW).trans (andQ_ok rfl)))))))
    · have hsf : Nv.safeP (Nv.ofP decP c).1 = false := by simpa using hs
      have hch : Nv.checkP decP c = 15 := by
        unfold Nv.checkP
        rw [if_pos ⟨he, hsf⟩]
      rw [hch, show ((15 : Int) != 0) = true by rfl, cond_true, he, show ((0 : Int) != 0) = false by rfl, cond_false]
      refine (askQ_ok hf.safe).trans ?_
      rw [hsf]; exact andQ_ok rfl
  · have hch : Nv.checkP decP c = (Nv.ofP decP c).2.2 := by
      unfold Nv.checkP
      have hno : ¬ ((Nv.ofP decP c).2.2 = 0 ∧ Nv.safeP (Nv.ofP decP c).1 = false) := fun h => he h.1
      rw [if_neg hno]
    have hne : ((Nv.ofP decP c).2.2 != 0) = true := by simpa using he
    rw [hch, hne, cond_true, cond_true]
end Go.Pv.Ef
