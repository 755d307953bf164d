/-
  Calls that are run in place: they are right.
-/
import Derived.Test.YtdfbjdchnkhiiaaDoorPvCall
namespace Go.Pv

section
variable {β β' : Nat → Option Loc} {M M' : Mem} {Z Z' : Nat → Prop} {h h' : Heap}

theorem RV.keepRefs {x : V} {v : Value} (r : RV β M Z h x v) (hk : ∀ b ∈ x.refs, M' b = M b ∧ β' b = β b) : RV β' M' Z h x v := by
  induction r with
  | dead v => exact .dead v
  | bool b => exact .bool b
  | int k n => exact .int k n
  | str s => exact .str s
  | nils => exact .nils
  | nilp => exact .nilp
  | nilf => exact .nilf
  | nilm => exact .nilm
  | ptr b i j g v h1 hn hg => obtain ⟨e1, e2⟩ := hk b (by simp [V.refs]); exact .ptr b i j g v h1 (by rw [e1]; exact hn) (by rw [e1, e2]; exact hg)
  | pa b j e n x o v h1 hn hg => obtain ⟨e1, e2⟩ := hk b (by simp [V.refs]); exact .pa b j e n x o v h1 (by rw [e1]; exact hn) (by rw [e1, e2]; exact hg)
  | sl b i m g v h1 hn hg => obtain ⟨e1, e2⟩ := hk b (by simp [V.refs]); exact .sl b i m g v h1 (by rw [e1]; exact hn) (by rw [e1, e2]; exact hg)
  | sb b j s n v h1 hn hg => obtain ⟨e1, e2⟩ := hk b (by simp [V.refs]); exact .sb b j s n v h1 (by rw [e1]; exact hn) (by rw [e1, e2]; exact hg)
  | fz τ l v hd => exact .fz τ l v hd
  | fp τ l i j v cb off c T fz x hv hz hc hx ho hd => exact .fp τ l i j v cb off c T fz x hv hz hc hx ho hd
  | fn f cap vs hl hc ih => exact .fn f cap vs hl fun i hi => ih i hi fun b hb => hk b (by simp only [V.refs]; exact refsL_mem hi hb)
  | agg cs vs hl hc ih => exact .agg cs vs hl fun i hi => ih i hi fun b hb => hk b (by simp only [V.refs]; exact refsL_mem hi hb)
  | tup cs vs hl hc ih => exact .tup cs vs hl fun i hi => ih i hi fun b hb => hk b (by simp only [V.refs]; exact refsL_mem hi hb)

theorem RB.keepRefs {b : Nat} (r : RB β M Z h b) (e1 : M' b = M b) (e2 : β' b = β b) (hk : ∀ b' ∈ (M b).refs, M' b' = M b' ∧ β' b' = β b') : RB β' M' Z h b := by
  unfold RB at *
  rw [e1, e2]
  cases hm : M b with
  | none => simp
  | dead => simp
  | box cells =>
    simp only [hm] at r ⊢
    obtain ⟨cb, T, c, a1, a2, a3, a4⟩ := r
    exact ⟨cb, T, c, a1, a2, a3, fun i hi => (a4 i hi).keepRefs fun b' hb' => hk b' (by rw [hm]; exact refsL_mem hi hb')⟩
  | row τ l g ro => simp only [hm] at r ⊢; exact r

theorem subN_iff {a b : List Nat} : subN a b = true ↔ ∀ x ∈ a, x ∈ b := by
  simp only [subN, List.all_eq_true, hasN_iff]

theorem closedN_iff {l : List Nat} : closedN M l = true ↔ ∀ b ∈ l, ∀ x ∈ (M b).refs, x ∈ l := by
  simp only [closedN, List.all_eq_true, subN_iff]

theorem only_in {l : List Nat} {b : Nat} (hb : b ∈ l) : M.only l b = M b := by simp [Mem.only, hasN_iff.2 hb]
theorem only_out {l : List Nat} {b : Nat} (hb : b ∉ l) : M.only l b = .none := by simp [Mem.only, hasN_not.2 hb]

theorem only_lies {l : List Nat} {b cb : Nat} (hl : lies β (M.only l) b cb) : b ∈ l ∧ lies β M b cb := by
  by_cases hb : b ∈ l
  · exact ⟨hb, by unfold lies at *; rwa [only_in hb] at hl⟩
  · unfold lies at hl; rw [only_out hb] at hl; exact absurd rfl hl.1

theorem only_owned {l : List Nat} {cb : Nat} (ho : owned β (M.only l) cb) : ∃ b ∈ l, (M b).own = true ∧ lies β M b cb := by
  obtain ⟨b, h1, h2⟩ := ho
  obtain ⟨h3, h4⟩ := only_lies h2
  exact ⟨b, h3, by rwa [only_in h3] at h1, h4⟩

/-- into the call -/
theorem RMem.enter (r : RMem β M Z h) {l : List Nat} (hc : ∀ b ∈ l, ∀ x ∈ (M b).refs, x ∈ l) : RMem β (M.only l) Z h where
  blk b := by
    by_cases hb : b ∈ l
    · exact (r.blk b).keepRefs (only_in hb) rfl fun b' hb' => ⟨only_in (hc b hb b' hb'), rfl⟩
    · unfold RB; rw [only_out hb]; trivial
  sep b b' cb h1 h2 h3 := by
    obtain ⟨a1, a2⟩ := only_lies h2
    obtain ⟨b1, b2⟩ := only_lies h3
    rw [only_in a1] at h1
    exact r.sep b b' cb h1 a2 b2
  zown cb hz ho := by
    obtain ⟨b, _, h1, h2⟩ := only_owned ho
    exact r.zown cb hz ⟨b, h1, h2⟩
  zlt := r.zlt

/-- memory after the call -/
def Mem.join (M M' : Mem) (ids : List Nat) : Mem := fun b => bif hasN b ids then M' b else M b
def joinB (β β' : Nat → Option Loc) (ids : List Nat) : Nat → Option Loc := fun b => bif hasN b ids then β' b else β b

theorem join_in {ids : List Nat} {b : Nat} (hb : b ∈ ids) : M.join M' ids b = M' b := by simp [Mem.join, hasN_iff.2 hb]
theorem join_out {ids : List Nat} {b : Nat} (hb : b ∉ ids) : M.join M' ids b = M b := by simp [Mem.join, hasN_not.2 hb]
theorem joinB_in {ids : List Nat} {b : Nat} (hb : b ∈ ids) : joinB β β' ids b = β' b := by simp [joinB, hasN_iff.2 hb]
theorem joinB_out {ids : List Nat} {b : Nat} (hb : b ∉ ids) : joinB β β' ids b = β b := by simp [joinB, hasN_not.2 hb]

theorem upds_join {ids : List Nat} : M.upds (ids.map fun b => (b, M' b)) = M.join M' ids := by
  funext b
  by_cases hb : b ∈ ids
  · rw [join_in hb]
    have gen : ∀ (ids : List Nat) (M : Mem), b ∈ ids → M.upds (ids.map fun b => (b, M' b)) b = M' b := by
      intro ids
      induction ids with
      | nil => intro M hb; cases hb
      | cons x r ih =>
        intro M hb
        simp only [List.map_cons, Mem.upds]
        by_cases hr : b ∈ r
        · exact ih _ hr
        · have : b = x := by
            rcases List.mem_cons.1 hb with e | e
            · exact e
            · exact absurd e hr
          subst this
          rw [upds_not (by simpa using hr), upd_same]
    exact gen ids M hb
  · rw [join_out hb, upds_not (by simpa using hb)]

theorem join_lies {ids : List Nat} {b cb : Nat} (hl : lies (joinB β β' ids) (M.join M' ids) b cb) : (b ∈ ids ∧ lies β' M' b cb) ∨ (b ∉ ids ∧ lies β M b cb) := by
  by_cases hb : b ∈ ids
  · exact .inl ⟨hb, by unfold lies at *; rwa [join_in hb, joinB_in hb] at hl⟩
  · exact .inr ⟨hb, by unfold lies at *; rwa [join_out hb, joinB_out hb] at hl⟩

theorem gen_ne_none_of_own {k : Blk} (h : k.own = true) : k.gen ≠ none := by cases k <;> simp_all [Blk.own, Blk.gen]

section leave
variable {fp ids : List Nat}

/-- out of the call -/
theorem leave (rm : RMem β M Z h) (rm' : RMem β' M' Z' h') (ev : Ev β (M.only fp) Z h β' M' Z' h') (hcl : ∀ b ∈ ids, ∀ x ∈ (M' b).refs, x ∈ ids)
    (hfp : ∀ b ∈ fp, b ∈ ids) (hnew : ∀ b ∈ ids, b ∈ fp ∨ M b = .none) :
    RMem (joinB β β' ids) (M.join M' ids) Z' h' ∧ Ev β M Z h (joinB β β' ids) (M.join M' ids) Z' h' ∧
      ∀ x v, RV β' M' Z' h' x v → (∀ b ∈ x.refs, b ∈ ids) → RV (joinB β β' ids) (M.join M' ids) Z' h' x v := by
  have own_only : ∀ cb, owned β (M.only fp) cb → ∃ b ∈ fp, (M b).own = true ∧ lies β M b cb := fun cb => only_owned
  -- the part that the call has not seen keeps its cells
  have apart : ∀ b, b ∉ ids → ∀ cb, lies β M b cb → ¬ owned β (M.only fp) cb := fun b hb cb hl ho => by
    obtain ⟨b', h1, h2, h3⟩ := own_only cb ho
    have := rm.sep b' b cb h2 h3 hl
    subst this
    exact hb (hfp _ h1)
  have keepcell : ∀ b, b ∉ ids → ∀ cb, lies β M b cb → h'[cb]? = h[cb]? := fun b hb cb hl =>
    ev.frame cb (lies_lt (rm.blk b) hl) (apart b hb cb hl)
  have grow : Grow β M Z h (joinB β β' ids) (M.join M' ids) Z' h' := by
    refine ⟨ev.zkeep, ev.zmono, fun b hb => ?_, fun b hb hg => ?_, fun b g hg g' hg' => ?_⟩
    · by_cases hi : b ∈ ids
      · rw [join_in hi]
        rcases hnew b hi with hf | hn
        · exact ev.nn b (by rw [only_in hf]; exact hb)
        · exact absurd hn hb
      · rw [join_out hi]; exact hb
    · by_cases hi : b ∈ ids
      · rw [join_in hi]
        rcases hnew b hi with hf | hn
        · exact ev.gone b (by rw [only_in hf]; exact hb) (by rw [only_in hf]; exact hg)
        · exact absurd hn hb
      · rw [join_out hi]; exact hg
    · by_cases hi : b ∈ ids
      · rw [join_in hi] at hg' ⊢
        rw [joinB_in hi]
        rcases hnew b hi with hf | hn
        · have := ev.gens b g (by rw [only_in hf]; exact hg) g' hg'
          rwa [only_in hf] at this
        · rw [hn] at hg; cases hg
      · rw [join_out hi] at hg' ⊢
        rw [joinB_out hi]
        rw [hg] at hg'; cases hg'
        exact ⟨Nat.le_refl _, fun _ => ⟨rfl, rfl, rfl, rfl⟩⟩
  have zout : ∀ cb, Z' cb → ∀ b, b ∉ ids → (M b).own = true → ¬ lies β M b cb := fun cb hz b hb ho hl => by
    rcases ev.znew cb hz with h1 | h1 | h1
    · exact rm.zown cb h1 ⟨b, ho, hl⟩
    · have := lies_lt (rm.blk b) hl; omega
    · exact apart b hb cb hl h1
  have hmem : RMem (joinB β β' ids) (M.join M' ids) Z' h' := by
    refine ⟨fun b => ?_, fun b b' cb ho hl hl' => ?_, fun cb hz ho => ?_, rm'.zlt⟩
    · by_cases hi : b ∈ ids
      · exact (rm'.blk b).keepRefs (join_in hi) (joinB_in hi) fun b' hb' => ⟨join_in (hcl b hi b' hb'), joinB_in (hcl b hi b' hb')⟩
      · exact (rm.blk b).keep grow (join_out hi) (fun _ => joinB_out hi) (keepcell b hi)
    · rcases join_lies hl with ⟨h1, h2⟩ | ⟨h1, h2⟩ <;> rcases join_lies hl' with ⟨h3, h4⟩ | ⟨h3, h4⟩
      · rw [join_in h1] at ho; exact rm'.sep b b' cb ho h2 h4
      · -- b is in, and owns; b' is out
        rw [join_in h1] at ho
        exfalso
        rcases ev.own cb ⟨b, ho, h2⟩ with h5 | h5
        · have := lies_lt (rm.blk b') h4; omega
        · exact apart b' h3 cb h4 h5
      · -- b is out, and owns; b' is in
        rw [join_out h1] at ho
        exfalso
        -- what b' lies in is owned, or frozen
        have hb' := rm'.blk b'
        cases hro : (M' b').own with
        | true =>
          rcases ev.own cb ⟨b', hro, h4⟩ with h5 | h5
          · have := lies_lt (rm.blk b) h2; omega
          · exact apart b h1 cb h2 h5
        | false =>
          have hz : Z' cb := by
            unfold RB at hb'
            obtain ⟨g1, g2⟩ := h4
            cases hk : M' b' with
            | none => simp [hk, Blk.gen] at g1
            | dead => simp [hk, Blk.gen] at g1
            | box cells => simp [hk, Blk.own] at hro
            | row τ l g ro =>
              simp only [hk] at hb'
              have hro' : ro = true := by simpa [hk, Blk.own] using hro
              rcases hb' with ⟨_, e⟩ | ⟨cb', base, T, c, fz, e1, _, _, _, _, e6⟩
              · rw [e] at g2; simp [Loc.blk?] at g2
              · rw [e1] at g2; simp only [Loc.blk?, Option.some.injEq] at g2; subst g2; exact e6 hro'
          exact zout cb hz b h1 ho h2
      · rw [join_out h1] at ho; exact rm.sep b b' cb ho h2 h4
    · obtain ⟨b, h1, h2⟩ := ho
      rcases join_lies h2 with ⟨h3, h4⟩ | ⟨h3, h4⟩
      · rw [join_in h3] at h1; exact rm'.zown cb hz ⟨b, h1, h4⟩
      · rw [join_out h3] at h1; exact zout cb hz b h3 h1 h4
  refine ⟨hmem, ?_, fun x v hx hr => hx.keepRefs fun b hb => ⟨join_in (hr b hb), joinB_in (hr b hb)⟩⟩
  refine ⟨grow, ev.size, fun cb hlt ho => ev.frame cb hlt fun hq => ?_, fun cb ho => ?_, fun cb hz => ?_⟩
  · obtain ⟨b, _, h1, h2⟩ := own_only cb hq
    exact ho ⟨b, h1, h2⟩
  · obtain ⟨b, h1, h2⟩ := ho
    rcases join_lies h2 with ⟨h3, h4⟩ | ⟨h3, h4⟩
    · rw [join_in h3] at h1
      rcases ev.own cb ⟨b, h1, h4⟩ with h5 | h5
      · exact .inl h5
      · obtain ⟨b', _, h6, h7⟩ := own_only cb h5; exact .inr ⟨b', h6, h7⟩
    · rw [join_out h3] at h1; exact .inr ⟨b, h1, h4⟩
  · rcases ev.znew cb hz with h1 | h1 | h1
    · exact .inl h1
    · exact .inr (.inl h1)
    · obtain ⟨b', _, h6, h7⟩ := own_only cb h1; exact .inr (.inr ⟨b', h6, h7⟩)

end leave
end
end Go.Pv
