/-
  What the statement's reading says of an argument that is a slice of flat data.
-/
import Derived.Test.YtdfbjdchnkhiiaaDoorPvRead
namespace Go.Pv
open Go.ChangeShapes

section
variable {H : Type} {enc : TypeId × Value → H} {P : Program} {w : World} {base : Nat} {spare : Nat → Bool} {held : Bool}

theorem rowAt_le {fits : TypeId → Bool} {d : Nat} {e : TypeId} {count off n : Nat} (h : rowAt P fits d e count off n = true) : off ≤ count * P.cellsOf e := by
  cases d with
  | zero => simp [rowAt] at h
  | succ d =>
    unfold rowAt at h
    simp only at h
    split at h
    · cases h
    · rename_i hs
      have hdm := Nat.div_add_mod off (P.cellsOf e)
      have hml := Nat.mod_lt off (Nat.pos_of_ne_zero hs)
      simp only [Bool.or_eq_true, Bool.and_eq_true, beq_iff_eq, decide_eq_true_eq] at h
      have key : off / P.cellsOf e ≤ count → off % P.cellsOf e = 0 ∨ off / P.cellsOf e < count → off ≤ count * P.cellsOf e := by
        intro h1 h2
        rcases h2 with h2 | h2
        · have : P.cellsOf e * (off / P.cellsOf e) ≤ P.cellsOf e * count := Nat.mul_le_mul_left _ h1
          rw [Nat.mul_comm count]; omega
        · have : P.cellsOf e * (off / P.cellsOf e + 1) ≤ P.cellsOf e * count := Nat.mul_le_mul_left _ h2
          rw [Nat.mul_add, Nat.mul_one] at this
          rw [Nat.mul_comm count]; omega
      rcases h with h | h
      · exact key (by omega) (.inl h.1.1)
      · exact key (by omega) (.inr h.1)

theorem liesAt_le : ∀ {d : Nat} {e : TypeId} {count off : Nat} {u : TypeId} {n : Nat}, liesAt P d e count off u n = true → off ≤ count * P.cellsOf e
  | 0, _, _, _, _, _, h => by simp [liesAt] at h
  | d + 1, e, count, off, u, n, h => by
    unfold liesAt at h
    simp only [Bool.or_eq_true] at h
    rcases h with h | h
    · exact rowAt_le h
    · split at h
      · exact liesAt_le h
      · cases h

theorem cells_take {b off n : Nat} {cs : List Value} {c : Array Value} {T : TypeId} {fz : Nat × Nat} (hc : w.heap[b]? = some (.cells c T fz)) (hl : cs.length = n) (h : ∀ i, i < n → w.cell? ⟨b, off + i, none⟩ = cs[i]?) :
    (0 < n → off + n ≤ c.size) ∧ (c.toList.drop off).take n = cs := by
  have hcell : ∀ k, w.cell? ⟨b, k, none⟩ = c[k]? := fun k => by unfold World.cell?; simp [hc]
  have hk : ∀ i, i < n → c[off + i]? = cs[i]? := fun i hi => by rw [← hcell, h i hi]
  refine ⟨fun hn => ?_, ?_⟩
  · have := hk (n - 1) (by omega)
    have h2 : (cs[n - 1]?).isSome = true := by simp; omega
    rw [← this] at h2
    simp at h2
    omega
  · apply List.ext_getElem?
    intro i
    rw [List.getElem?_take]
    split
    · rename_i hi
      rw [List.getElem?_drop, ← hk i hi]; simp
    · rename_i hi
      rw [List.getElem?_eq_none (by omega)]

theorem add_plain (b off n : Nat) : (⟨b, off, none⟩ : Addr).add n = ⟨b, off + n, none⟩ := by
  unfold Addr.add; split <;> simp_all

theorem choose_list {α : Type} {n : Nat} {p : Nat → α → Prop} (h : ∀ i, i < n → ∃ x, p i x) : ∃ l : List α, l.length = n ∧ ∀ i x, l[i]? = some x → p i x := by
  induction n with
  | zero => exact ⟨[], rfl, fun i x hx => by simp at hx⟩
  | succ n ih =>
    obtain ⟨l, h1, h2⟩ := ih fun i hi => h i (by omega)
    obtain ⟨x, hx⟩ := h n (by omega)
    refine ⟨l ++ [x], by simp [h1], fun i y hy => ?_⟩
    by_cases hi : i < l.length
    · rw [List.getElem?_append_left hi] at hy; exact h2 i y hy
    · rw [List.getElem?_append_right (by omega)] at hy
      have : i - l.length = 0 := by
        have := (List.getElem?_eq_some_iff.1 hy).1
        simp at this; omega
      rw [this] at hy
      simp at hy
      subst hy
      have : i = n := by omega
      subst this; exact hx

/-- a slice of flat data read -/
theorem slice_RD {n : Nat} {t e : TypeId} {τ : Ty} {r : Reach} {b0 : Nat} {v : Value} {d : DataW H} {ps : List MemPlace} (ht : P.underlying t = some (.slice e)) (he : tyL P n e = some τ) (hsz : P.cellsOf e = τ.size)
    (hval : Value.okWide P w r b0 t v) (hd : DataW.Trod enc P w base spare held t v d ps) :
    ∃ l : List τ.den, (∀ x ∈ l, TyOk τ x) ∧ l.length ≤ 9223372036854775807 ∧ RD w.heap (fun cb => cb < w.heap.size) (.slice τ) l [v] := by
  obtain ⟨fuel, hf⟩ := hd
  have hok : Cell.okWide P w r b0 t v := by unfold Value.okWide at hval; rw [ht] at hval; exact hval
  have hnag : ∀ cs, v ≠ .agg cs := by rintro cs rfl; simp [Cell.okWide, Cell.ok, ht] at hok
  have hcells : v.cells.toList = [v] := by
    cases v <;> first | rfl | exact absurd rfl (hnag _)
  rw [hcells] at hf
  rcases DataW.trod_slice ht hf with ⟨h1, _⟩ | ⟨a, len, cap, elems, rest, m, _, h1, _, _, h3, h4, h5, h6, _⟩
  · refine ⟨[], by simp, by simp, ?_⟩
    exact .inl ⟨h1, rfl⟩
  · simp only [List.cons.injEq, and_true] at h1
    subst h1
    simp only [Cell.okWide, Cell.ok, ht] at hok
    obtain ⟨_, _, _, hsp, row, cells, hsh, hli⟩ := hok
    obtain ⟨blk, off, spot⟩ := a
    simp only at hsp hsh hli
    subst hsp
    have hblk : ∃ c T fz, w.heap[blk]? = some (.cells c T fz) ∧ c.size = cells ∧ T = row := by
      unfold World.shape? at hsh
      split at hsh
      · rename_i c T fz hb
        cases hsh; exact ⟨c, _, fz, hb, rfl, rfl⟩
      · cases hsh
    obtain ⟨c, T, fz, hc, rfl, _⟩ := hblk
    have hoff : off ≤ c.size := Nat.le_trans (liesAt_le hli) (Nat.div_mul_le_self _ _)
    have each : ∀ i, i < len → ∃ x : τ.den, TyOk τ x ∧ off + i * τ.size + τ.size ≤ c.size ∧ RD w.heap (fun cb => cb < w.heap.size) τ x ((c.toList.drop (off + i * τ.size)).take τ.size) := by
      intro i hi
      have h7 := h6 i hi
      have hel : elems[i]? = some elems[i] := List.getElem?_eq_getElem (by omega)
      rw [hel] at h7
      simp only [Option.bind_eq_some_iff] at h7
      obtain ⟨cs, h8, h9⟩ := h7
      obtain ⟨_, h10, h11⟩ := World.cells?_some h8
      rw [hsz] at h10 h11
      obtain ⟨x, h12, h13⟩ := trod_RD (h := w.heap) (Z := fun cb => cb < w.heap.size) n m e τ cs _ he h9
      have h14 := cells_take (off := off + i * τ.size) hc h10 (fun k hk => by
        have := h11 k hk
        rw [add_plain, add_plain] at this
        exact this)
      refine ⟨x, h13, ?_, by rw [h14.2]; exact h12⟩
      by_cases hz : τ.size = 0
      · rw [hz]; simpa using hoff
      · exact h14.1 (by omega)
    obtain ⟨l, hl, hx⟩ := choose_list each
    refine ⟨l, fun x hx' => ?_, ?_, ?_⟩
    · obtain ⟨i, hi⟩ := List.getElem?_of_mem hx'
      exact (hx i x hi).1
    · rw [hl]; unfold maxLen at h4; omega
    · simp only [RD]
      refine .inr ⟨blk, off, cap, c, T, fz, by rw [hl], by rw [hl]; exact h3, (Array.getElem?_eq_some_iff.1 hc).1, hc, ?_, fun i x hi => (hx i x hi).2.2⟩
      rw [hl]
      cases len with
      | zero => simpa using hoff
      | succ k =>
        obtain ⟨y, hy⟩ : ∃ y, l[k]? = some y := ⟨l[k]'(by omega), List.getElem?_eq_getElem _⟩
        have := (hx k y hy).2.1
        rw [Nat.add_mul]; omega

/-- as an abstract value -/
theorem slice_RV {n : Nat} {t e : TypeId} {τ : Ty} {r : Reach} {b0 : Nat} {v : Value} {d : DataW H} {ps : List MemPlace} (ht : P.underlying t = some (.slice e)) (he : tyL P n e = some τ) (hsz : P.cellsOf e = τ.size)
    (hval : Value.okWide P w r b0 t v) (hd : DataW.Trod enc P w base spare held t v d ps) {β : Nat → Option Loc} {M : Mem} :
    ∃ l : List τ.den, (∀ x ∈ l, TyOk τ x) ∧ l.length ≤ 9223372036854775807 ∧ RV β M (fun cb => cb < w.heap.size) w.heap (.fz τ l) v := by
  obtain ⟨l, h1, h2, h3⟩ := slice_RD ht he hsz hval hd
  exact ⟨l, h1, h2, .fz τ l v h3⟩

/-- a number -/
theorem int_RV {t : TypeId} {k : IntKind} {r : Reach} {b0 : Nat} {v : Value} {d : DataW H} {ps : List MemPlace} (ht : P.underlying t = some (.int k))
    (hval : Value.okWide P w r b0 t v) (hd : DataW.Trod enc P w base spare held t v d ps) {β : Nat → Option Loc} {M : Mem} {Z : Nat → Prop} {h : Heap} :
    ∃ m : Int, (Lit.int k m).wf = true ∧ RV β M Z h (.int k m) v := by
  obtain ⟨m, rfl, _, _, hw⟩ := open_int ht hval hd
  exact ⟨m, hw, .int k m⟩

/-- a string -/
theorem str_RV {t : TypeId} {r : Reach} {b0 : Nat} {v : Value} {d : DataW H} {ps : List MemPlace} (ht : P.underlying t = some .string)
    (hval : Value.okWide P w r b0 t v) (hd : DataW.Trod enc P w base spare held t v d ps) {β : Nat → Option Loc} {M : Mem} {Z : Nat → Prop} {h : Heap} :
    ∃ s : ByteArray, RV β M Z h (.str s) v := by
  have hok : Cell.okWide P w r b0 t v := by unfold Value.okWide at hval; rw [ht] at hval; exact hval
  cases v <;> simp [Cell.okWide, Cell.ok, ht] at hok
  rename_i s
  exact ⟨s, .str s⟩

/-- a struct of flat data -/
theorem agg_RV {n : Nat} {t : TypeId} {fs : Array Field} {τ : Ty} {r : Reach} {b0 : Nat} {v : Value} {d : DataW H} {ps : List MemPlace} (ht : P.underlying t = some (.struct fs)) (hl : tyL P n t = some τ)
    (hval : Value.okWide P w r b0 t v) (hd : DataW.Trod enc P w base spare held t v d ps) {β : Nat → Option Loc} {M : Mem} {Z : Nat → Prop} :
    ∃ x : τ.den, TyOk τ x ∧ RV β M Z w.heap (.agg (Go.Pv.enc τ x)) v := by
  obtain ⟨fuel, hf⟩ := hd
  obtain ⟨x, h1, h2⟩ := trod_RD (Z := Z) (h := w.heap) n fuel t τ _ _ hl hf
  have hag : ∃ cs, v = .agg cs := by
    unfold Value.okWide at hval
    rw [ht] at hval
    obtain ⟨cs, h, _⟩ := hval
    exact ⟨cs, h⟩
  obtain ⟨cs, rfl⟩ := hag
  refine ⟨x, h2, ?_⟩
  obtain ⟨e1, e2⟩ := RL.to_arr (vs := cs) (RL.of_RD (β := β) (M2 := M) h1)
  exact .agg _ _ e1 e2

/-- an array of flat data -/
theorem arr_RV {n len : Nat} {t e : TypeId} {τ : Ty} {r : Reach} {b0 : Nat} {v : Value} {d : DataW H} {ps : List MemPlace} (ht : P.underlying t = some (.array len e)) (hl : tyL P n t = some τ)
    (hval : Value.okWide P w r b0 t v) (hd : DataW.Trod enc P w base spare held t v d ps) {β : Nat → Option Loc} {M : Mem} {Z : Nat → Prop} :
    ∃ x : τ.den, TyOk τ x ∧ RV β M Z w.heap (.agg (Go.Pv.enc τ x)) v := by
  obtain ⟨fuel, hf⟩ := hd
  obtain ⟨x, h1, h2⟩ := trod_RD (Z := Z) (h := w.heap) n fuel t τ _ _ hl hf
  have hag : ∃ cs, v = .agg cs := by
    unfold Value.okWide at hval
    rw [ht] at hval
    obtain ⟨cs, h, _⟩ := hval
    exact ⟨cs, h⟩
  obtain ⟨cs, rfl⟩ := hag
  refine ⟨x, h2, ?_⟩
  obtain ⟨e1, e2⟩ := RL.to_arr (vs := cs) (RL.of_RD (β := β) (M2 := M) h1)
  exact .agg _ _ e1 e2

end
end Go.Pv
