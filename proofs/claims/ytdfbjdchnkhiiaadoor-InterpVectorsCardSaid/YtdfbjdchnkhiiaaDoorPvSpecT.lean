/-
  What a caller is told of a function with structured results: it is right.
-/
import Derived.Test.YtdfbjdchnkhiiaaDoorPvLoopT
namespace Go.Pv

theorem refsL_append (l r : List V) : refsL (l ++ r) = refsL l ++ refsL r := by
  induction l with
  | nil => rfl
  | cons a l ih => simp only [List.cons_append, refsL, ih, List.append_assoc]

theorem Tr.cells_refs : ∀ (t : Tr) (k : Nat) (x : t.den) (b : Nat), b ∈ refsL (t.cells k x) → k ≤ b ∧ b < k + t.wid
  | .unit, _, _, b, h => by simp [Tr.cells, refsL] at h
  | .dat τ, _, x, b, h => by simp only [Tr.cells, enc_refs] at h; cases h
  | .row τ, k, _, b, h => by simp [Tr.cells, refsL, V.refs] at h; simp only [Tr.wid]; omega
  | .box t, k, _, b, h => by simp [Tr.cells, refsL, V.refs] at h; simp only [Tr.wid]; omega
  | .pair a c, k, x, b, h => by
    simp only [Tr.cells, refsL_append, List.mem_append] at h
    simp only [Tr.wid]
    rcases h with h | h
    · have := a.cells_refs k x.1 b h; omega
    · have := c.cells_refs (k + a.wid) x.2 b h; omega

theorem Tr.mem_refs : ∀ (t : Tr) (k : Nat) (x : t.den) (n b : Nat), b ∈ (t.mem k x n).refs → k ≤ b ∧ b < k + t.wid
  | .unit, _, _, _, b, h => by simp [Tr.mem, Blk.refs] at h
  | .dat τ, _, x, _, b, h => by simp [Tr.mem, Blk.refs] at h
  | .row τ, k, _, n, b, h => by
    simp only [Tr.mem] at h
    cases e : Nat.beq n k <;> rw [e] at h <;> simp [Blk.refs] at h
  | .box t, k, x, n, b, h => by
    simp only [Tr.mem] at h
    simp only [Tr.wid]
    cases e : Nat.beq n k with
    | true =>
      rw [e] at h
      simp only [cond_true, Blk.refs] at h
      have := t.cells_refs (k + 1) x b h; omega
    | false =>
      rw [e] at h
      have := t.mem_refs (k + 1) x n b h; omega
  | .pair a c, k, x, n, b, h => by
    simp only [Tr.mem] at h
    simp only [Tr.wid]
    cases e : Nat.blt n (k + a.wid) with
    | true => rw [e] at h; have := a.mem_refs k x.1 n b h; omega
    | false => rw [e] at h; have := c.mem_refs (k + a.wid) x.2 n b h; omega

theorem TSh.putM_refs : ∀ (sh : TSh) (k : Nat) (x : sh.den) (n b : Nat), b ∈ (TSh.putM sh k x n).refs → k ≤ b ∧ b < k + sh.wid
  | [], _, _, _, b, h => by simp [TSh.putM, Blk.refs] at h
  | s :: r, k, x, n, b, h => by
    simp only [TSh.putM] at h
    simp only [TSh.wid]
    cases e : Nat.blt n (k + s.tr.wid) with
    | true => rw [e] at h; have := s.tr.mem_refs k x.1 n b h; omega
    | false => rw [e] at h; have := TSh.putM_refs r (k + s.tr.wid) x.2 n b h; omega

theorem mkv_refs {ag : Bool} {cs : List V} {b : Nat} (h : b ∈ (mkv ag cs).refs) : b ∈ refsL cs := by
  cases ag with
  | true => exact h
  | false =>
    cases cs with
    | nil => simp [mkv, V.refs] at h
    | cons c r => simp only [mkv, cond_false, List.headD_cons] at h; simp only [refsL, List.mem_append]; exact .inl h

theorem TSh.putT_refs : ∀ (sh : TSh) (k : Nat) (x : sh.den) (t b : Nat), b ∈ (TSh.putT sh k x t).refs → k ≤ b ∧ b < k + sh.wid
  | [], _, _, _, b, h => by simp [TSh.putT, V.refs] at h
  | s :: r, k, x, t, b, h => by
    simp only [TSh.putT] at h
    simp only [TSh.wid]
    by_cases e : t = s.tmp
    · subst e
      rw [setT_same] at h
      have := s.tr.cells_refs k x.1 b (mkv_refs h); omega
    · rw [setT_ne _ _ e] at h
      have := TSh.putT_refs r (k + s.tr.wid) x.2 t b h; omega

/-! ### Freezing in another memory that looks the same -/
theorem frz1_congr {M M2 : Mem} {v : V} (hs : (match (frz1 M v).1 with
    | .sl _ _ _ _ => false
    | _ => true) = true) (hM : ∀ b ∈ (frz1 M v).2.map (·.1), M2 b = M b) : frz1 M2 v = frz1 M v := by
  cases v with
  | sl b i m g =>
    simp only [frz1] at hs hM ⊢
    cases hb : M b with
    | row τ l g' ro =>
      rw [hb] at hs hM
      simp only at hs hM
      cases hq : Nat.beq g g' with
      | false => rw [hq] at hs; simp at hs
      | true =>
        rw [hq] at hM
        have := hM b (by simp)
        rw [this, hb]
    | none => rw [hb] at hs; simp at hs
    | dead => rw [hb] at hs; simp at hs
    | box c => rw [hb] at hs; simp at hs
  | _ => rfl

theorem upds_agree {M M2 : Mem} {u : List (Nat × Blk)} {b : Nat} (h : b ∉ u.map (·.1) → M2 b = M b) : (M2.upds u) b = (M.upds u) b := by
  by_cases e : b ∈ u.map (·.1)
  · exact upds_in e
  · exact upds_congr (h e)

theorem frzL_congr : ∀ {cs : List V} {M M2 : Mem}, ((frzL M cs).1.all fun c => match c with
    | .sl _ _ _ _ => false
    | _ => true) = true → (∀ b ∈ (frzL M cs).2.map (·.1), M2 b = M b) → frzL M2 cs = frzL M cs
  | [], _, _, _, _ => rfl
  | v :: r, M, M2, hs, hM => by
    simp only [frzL, List.all_cons, Bool.and_eq_true, List.map_append, List.mem_append] at hs hM
    have e1 := frz1_congr (M2 := M2) hs.1 fun b hb => hM b (.inl hb)
    have e2 := frzL_congr (M2 := M2.upds (frz1 M v).2) hs.2 fun b hb => upds_agree fun _ => hM b (.inr hb)
    simp only [frzL, e1, e2]

theorem frzV_congr {M M2 : Mem} {v : V} (hs : (frzV M v).1.solid = true) (hM : ∀ b ∈ (frzV M v).2.map (·.1), M2 b = M b) : frzV M2 v = frzV M v := by
  cases v with
  | agg cs =>
    simp only [frzV] at hs hM ⊢
    have := frzL_congr (M2 := M2) hs hM
    rw [this]
  | sl b i m g =>
    simp only [frzV] at hs hM ⊢
    refine frz1_congr ?_ hM
    revert hs
    cases (frz1 M (.sl b i m g)).1 <;> simp [V.solid]
  | _ => rfl

theorem frzA_congr : ∀ {cs : List V} {M M2 : Mem}, (frzA M cs).1.all V.solid = true → (∀ b ∈ (frzA M cs).2.map (·.1), M2 b = M b) → frzA M2 cs = frzA M cs
  | [], _, _, _, _ => rfl
  | v :: r, M, M2, hs, hM => by
    simp only [frzA, List.all_cons, Bool.and_eq_true, List.map_append, List.mem_append] at hs hM
    have e1 := frzV_congr (M2 := M2) hs.1 fun b hb => hM b (.inl hb)
    have e2 := frzA_congr (M2 := M2.upds (frzV M v).2) hs.2 fun b hb => upds_agree fun _ => hM b (.inr hb)
    simp only [frzA, e1, e2]

section
variable {P : Program}

theorem specT_ok {R : Type} {f : FuncId} {sa : Sig} {sr : TSh} {F : sa.den → Option sr.den} (hfn : FnT P f sa sr F)
    (hcount : ∀ fn, P.funcs[f]? = some fn → fn.results.size = sr.length) :
    ∀ args M id (c : Eff → Option R) r, specT sa sr F args M id c = some r → ∃ eff, CallOK P f args M eff ∧ c eff = some r := by
  intro args M id c r h
  unfold specT at h
  generalize hfz : frzA M args = fz at h
  obtain ⟨args', u⟩ := fz
  simp only at h
  cases hsol : args'.all V.solid with
  | false => rw [hsol] at h; cases h
  | true =>
    rw [hsol] at h
    simp only [cond_true] at h
    cases ha : argsG (M.upds u) sa args' with
    | none => rw [ha] at h; cases h
    | some p =>
      obtain ⟨x, fps⟩ := p
      rw [ha] at h
      simp only at h
      cases fps with
      | cons _ _ => cases h
      | nil =>
        simp only at h
        cases hF : F x with
        | none => rw [hF] at h; cases h
        | some y =>
          rw [hF] at h
          simp only [forceN_eq, forceNs_eq] at h
          generalize (id + 1) * 100000 = k at h
          cases hi : ((List.range sr.wid).map fun j => k + j).all (fun b => (M b).isNone) && u.all (fun p => Nat.blt p.1 k) with
          | false => rw [hi] at h; cases h
          | true =>
            rw [hi] at h
            simp only [cond_true] at h
            simp only [Bool.and_eq_true] at hi
            obtain ⟨hcallable, hcalls⟩ := hfn x y hF
            have hids : ∀ b, b ∈ ((List.range sr.wid).map fun j => k + j) ↔ k ≤ b ∧ b < k + sr.wid := fun b => by
              simp only [List.mem_map, List.mem_range]
              constructor
              · rintro ⟨j, hj, rfl⟩; omega
              · rintro ⟨h1, h2⟩; exact ⟨b - k, by omega, by omega⟩
            generalize hidsE : ((List.range sr.wid).map fun j => k + j) = ids at h hi hids
            have hu : ∀ b ∈ u.map (·.1), b < k := fun b hb => by
              obtain ⟨p, hp, rfl⟩ := List.mem_map.1 hb
              exact blt_iff.1 (List.all_eq_true.1 hi.2 p hp)
            refine ⟨_, ⟨fun b hb => ?_, hcallable, fun M2 hM β Z w cargs hmem hargs => ?_⟩, h⟩
            · simp only [List.map_append, List.map_map, List.mem_append] at hb ⊢
              rcases hb with hb | hb
              · exact .inr hb
              · left
                simpa using hb
            · simp only [List.mem_append] at hM
              have hfz2 : frzA M2 args = (args', u) := by
                have e := frzA_congr (cs := args) (M := M) (M2 := M2) (by rw [hfz]; exact hsol) (by rw [hfz]; exact fun b hb => hM b (.inr hb))
                rw [e, hfz]
              obtain ⟨Z1, f1, r1⟩ := frzA_ok (w := w) hmem hargs
              rw [hfz2] at f1 r1
              simp only at f1 r1
              have ha2 : argsG (M2.upds u) sa args' = some (x, []) := argsG_congr ha fun b hb => by cases hb
              have hargs' := argsG_ok f1.mem (Z1 := Z1) (fun cb hz => hz) β (fun _ => .none) ha2 r1 fun b hb => by cases hb
              refine (hcalls k β Z1 w cargs f1.mem.zlt hargs').mono fun e w' ⟨us, β', Z', h1, ⟨fn, h2, h3⟩, h4, h5, h6⟩ => ?_
              obtain ⟨s1, s2, s3, s4, s5, s6⟩ := h6
              have hfree : ∀ b ∈ ids, (M2.upds u) b = .none := fun b hb => by
                have hb' := (hids b).1 hb
                rw [upds_not fun hin => by have := hu b hin; omega, hM b (.inl hb)]
                exact isNone_iff (List.all_eq_true.1 hi.1 b hb)
              have hev : Ev β ((M2.upds u).only []) Z1 w.heap β' (TSh.putM sr k y) Z' w'.heap := by
                have hn : ∀ b, (M2.upds u).only [] b = .none := fun b => only_out (by simp)
                refine { zkeep := fun cb hz => s4 cb (f1.mem.zlt.lt cb hz), zmono := s1, nn := fun b hb => absurd (hn b) hb, gone := fun b hb _ => absurd (hn b) hb, gens := fun b g hg => (by rw [hn b] at hg; cases hg), size := s3, frame := fun cb hlt _ => s4 cb hlt, own := fun cb ho => .inl (s5 cb ho), znew := fun cb hz => ?_ }
                rcases s2 cb hz with h | h
                · exact .inl h
                · exact .inr (.inl h)
              obtain ⟨l1, l2, l3⟩ := leave f1.mem h5 hev (ids := ids) (fun b _ x hx => (hids x).2 (TSh.putM_refs sr k y b x hx)) (fun b hb => by cases hb) (fun b hb => .inr (hfree b hb))
              refine ⟨_, joinB β β' ids, Z', h1, ?_, ?_, ?_⟩ <;> rw [upds_append, upds_join]
              · have hrl : RL (joinB β β' ids) ((M2.upds u).join (TSh.putM sr k y) ids) Z' w'.heap (resT sr k y sr.length) us := by
                  refine ⟨by rw [h3, hcount fn h2]; simp [resT], fun t v u' hv hu' => ?_⟩
                  have e : v = TSh.putT sr k y t := by
                    unfold resT at hv
                    rw [List.getElem?_map] at hv
                    cases hr : (List.range sr.length)[t]? with
                    | none => rw [hr] at hv; cases hv
                    | some q =>
                      rw [hr] at hv
                      have hlt := (List.getElem?_eq_some_iff.1 hr).1
                      have hq : q = t := by
                        have := (List.getElem?_eq_some_iff.1 hr).2
                        simp at this; exact this.symm
                      subst hq
                      simp at hv; exact hv.symm
                  subst e
                  have := h4 t
                  have hg : us.getD t undef = u' := by simp [hu']
                  rw [hg] at this
                  exact l3 _ _ this fun b hb => (hids b).2 (TSh.putT_refs sr k y t b hb)
                exact retV_ok hrl
              · exact l1
              · exact f1.ev.trans ⟨l2, s6⟩
end
end Go.Pv
