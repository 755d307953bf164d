/-
  The ground of the proof, part 2: append and copy. append and copy: the abstract run is right. copy into an array: the abstract run is right. Freezing: live slices become data that are written no more. Maps: made, read, written; a pointer that is not nil: the abstract run is right. Every operation: the abstract run is right. Regions in the order of the text. Regions whose order is drawn: if no two operations that may change places touch the same, the order of the text serves all. Code: the abstract run is right. Calls that are run in place. Calls that are run in place: they are right. Calls that are run in place, the end: results, parameters, the whole. Shapes: the live part of a frame as typed data; grabbed, and put down again with all else forgotten. Loops over typed states. Functions by themselves: typed arguments, typed results; and what a caller is told of them. What a caller is told of a function that is known by itself.
-/
import Derived.Test.YtchkmdhncgahbaaGreatDoorL1
import Derived.Orders
/-! ### append and copy. -/
namespace Go.Pv
section
variable {P : Program} {T : TypeId → TT} {o : Oper} {ev : Operand → V} {M : Mem} {R : Type}
variable {β β' : Nat → Option Loc} {M2 : Mem} {Z : Nat → Prop} {h h' : Heap} {w : World}

/-- A row of one's own goes on elsewhere, or in place, in a new generation. -/
theorem gr_ev (hm : RMem β M2 Z h) {b : Nat} {k' : Blk} {loc' : Loc} (ho : (M2 b).own = true) (hg : ∃ g g', (M2 b).gen = some g ∧ k'.gen = some g' ∧ g < g')
    (hs : h.size ≤ h'.size) (hh : ∀ x, x < h.size → Loc.blk? (β b) ≠ some x → h'[x]? = h[x]?) (hloc : ∀ x, Loc.blk? (some loc') = some x → h.size ≤ x ∨ Loc.blk? (β b) = some x) :
    Ev β M2 Z h (updβ β b loc') (M2.upd b k') Z h' := by
  obtain ⟨g, g', hg1, hg2, hlt⟩ := hg
  have hgen : (M2 b).gen ≠ none := by rw [hg1]; simp
  have howned : ∀ x, Loc.blk? (β b) = some x → owned β M2 x := fun x hx => ⟨b, ho, hgen, hx⟩
  have hh' : ∀ x, x < h.size → ¬ owned β M2 x → h'[x]? = h[x]? := fun x hl hx => hh x hl fun e => hx (howned x e)
  refine { zkeep := fun x hz => hh' x (hm.zlt.lt x hz) (hm.zown x hz), zmono := fun _ h => h, nn := ?_, gone := ?_, gens := ?_, size := hs, frame := fun x hl hx => hh' x hl hx, own := ?_, znew := fun _ h => .inl h }
  · intro x hx
    by_cases e : x = b
    · rw [e, upd_same]; intro e2; rw [e2] at hg2; cases hg2
    · rw [upd_ne _ _ e]; exact hx
  · intro x hx hn
    by_cases e : x = b
    · rw [e] at hn; exact absurd hn hgen
    · rw [upd_ne _ _ e]; exact hn
  · intro x gx hx gx' hx'
    by_cases e : x = b
    · subst e
      rw [upd_same] at hx'
      rw [hg1] at hx; rw [hg2] at hx'
      cases hx; cases hx'
      exact ⟨by omega, fun e => by omega⟩
    · rw [upd_ne _ _ e] at hx' ⊢
      rw [hx] at hx'; cases hx'
      exact ⟨Nat.le_refl _, fun _ => ⟨updβ_ne _ _ e, rfl, rfl, rfl⟩⟩
  · rintro x ⟨y, h1, h2, h3⟩
    by_cases e : y = b
    · subst e
      rw [updβ_same] at h3
      rcases hloc x h3 with q | q
      · exact .inl q
      · exact .inr (howned x q)
    · rw [upd_ne _ _ e] at h1 h2
      rw [updβ_ne _ _ e] at h3
      exact .inr ⟨y, h1, h2, h3⟩

theorem gr_mem (hm : RMem β M2 Z h) {b : Nat} {k' : Blk} {loc' : Loc} (ho : (M2 b).own = true) (hg : ∃ g g', (M2 b).gen = some g ∧ k'.gen = some g' ∧ g < g')
    (hs : h.size ≤ h'.size) (hh : ∀ x, x < h.size → Loc.blk? (β b) ≠ some x → h'[x]? = h[x]?) (hloc : ∀ x, Loc.blk? (some loc') = some x → h.size ≤ x ∨ Loc.blk? (β b) = some x)
    (hb : RB (updβ β b loc') (M2.upd b k') Z h' b) : RMem (updβ β b loc') (M2.upd b k') Z h' := by
  have ev := gr_ev (k' := k') hm ho hg hs hh hloc
  have hgen : (M2 b).gen ≠ none := by obtain ⟨g, _, hg1, _⟩ := hg; rw [hg1]; simp
  have hold : ∀ {x cb : Nat}, x ≠ b → lies (updβ β b loc') (M2.upd b k') x cb → lies β M2 x cb := by
    intro x cb e hl
    unfold lies at *; rw [upd_ne _ _ e, updβ_ne _ _ e] at hl; exact hl
  have hnew : ∀ {cb : Nat}, lies (updβ β b loc') (M2.upd b k') b cb → h.size ≤ cb ∨ lies β M2 b cb := by
    rintro cb ⟨_, h3⟩
    rw [updβ_same] at h3
    rcases hloc cb h3 with q | q
    · exact .inl q
    · exact .inr ⟨hgen, q⟩
  refine ⟨fun x => ?_, ?_, ?_, hm.zlt.mono ev.zkeep (fun _ h => h) fun cb hz => Nat.lt_of_lt_of_le (hm.zlt.lt cb hz) hs⟩
  · by_cases e : x = b
    · rw [e]; exact hb
    · refine (hm.blk x).keep ev.toGrow (upd_ne _ _ e) (fun _ => updβ_ne _ _ e) fun cb hlx => hh cb (lies_lt (hm.blk x) hlx) fun e2 => e ?_
      exact (hm.sep b x cb ho ⟨hgen, e2⟩ hlx).symm
  · intro x x' cb hox hlx hlx'
    by_cases e : x = b
    · by_cases e' : x' = b
      · rw [e, e']
      · exfalso
        rw [e] at hlx
        rcases hnew hlx with q | q
        · have := lies_lt (hm.blk x') (hold e' hlx'); omega
        · exact e' (hm.sep b x' cb ho q (hold e' hlx')).symm
    · by_cases e' : x' = b
      · exfalso
        rw [e'] at hlx'
        rw [upd_ne _ _ e] at hox
        rcases hnew hlx' with q | q
        · have := lies_lt (hm.blk x) (hold e hlx); omega
        · exact e (hm.sep x b cb hox (hold e hlx) q)
      · rw [upd_ne _ _ e] at hox
        exact hm.sep x x' cb hox (hold e hlx) (hold e' hlx')
  · intro cb hz hown
    rcases ev.own cb hown with q | q
    · have := hm.zlt.lt cb hz; omega
    · exact hm.zown cb hz q

/-! ### What append and copy read -/
theorem RD.flat : ∀ {τ : Ty} {x : τ.den} {cs : List Value}, RD h Z τ x cs → ∀ u ∈ cs, u.oneCell' = true
  | .unit, _, cs, hh, u, hu => by simp only [RD] at hh; subst hh; simp at hu
  | .bool, _, cs, hh, u, hu => by simp only [RD] at hh; subst hh; simp at hu; subst hu; rfl
  | .str, _, cs, hh, u, hu => by simp only [RD] at hh; subst hh; simp at hu; subst hu; rfl
  | .int _, _, cs, hh, u, hu => by simp only [RD] at hh; subst hh; simp at hu; subst hu; rfl
  | .pair a b, x, cs, hh, u, hu => by
    rw [← List.take_append_drop a.size cs] at hu
    rcases List.mem_append.1 hu with q | q
    · exact RD.flat hh.1 u q
    · exact RD.flat hh.2 u q
  | .slice e, l, cs, hh, u, hu => by
    simp only [RD] at hh
    rcases hh with ⟨⟨_, _, h1⟩, _⟩ | ⟨_, _, _, _, _, _, h1, _⟩ <;> subst h1 <;> simp at hu <;> subst hu <;> rfl

/-- cells that hold the data of a list, element by element -/
def Rows (h : Heap) (Z : Nat → Prop) (τ : Ty) (l : List τ.den) (cs : List Value) : Prop :=
  cs.length = l.length * τ.size ∧ ∀ i x, l[i]? = some x → RD h Z τ x ((cs.drop (i * τ.size)).take τ.size)

theorem Rows.flat {τ : Ty} {l : List τ.den} {cs : List Value} (r : Rows h Z τ l cs) (hs : 0 < τ.size) : ∀ u ∈ cs, u.oneCell' = true := by
  intro u hu
  obtain ⟨k, hk, rfl⟩ := List.getElem_of_mem hu
  have hlt : k / τ.size < l.length := by
    rw [Nat.div_lt_iff_lt_mul hs, ← r.1]; exact hk
  have hd := r.2 (k / τ.size) l[k / τ.size] (by simp [hlt])
  refine hd.flat _ ?_
  have hdm := Nat.div_add_mod k τ.size
  have hml := Nat.mod_lt k hs
  have e : ((cs.drop (k / τ.size * τ.size)).take τ.size)[k % τ.size]? = some cs[k] := by
    rw [List.getElem?_take, if_pos hml, List.getElem?_drop]
    rw [show k / τ.size * τ.size + k % τ.size = k from by rw [Nat.mul_comm]; exact hdm]
    simp [hk]
  exact List.mem_of_getElem? e

theorem Rows.nil {τ : Ty} : Rows h Z τ [] [] := ⟨by simp, fun i x hx => by simp at hx⟩

theorem Rows.append {τ : Ty} {l1 l2 : List τ.den} {c1 c2 : List Value} (h1 : Rows h Z τ l1 c1) (h2 : Rows h Z τ l2 c2) : Rows h Z τ (l1 ++ l2) (c1 ++ c2) := by
  refine ⟨by simp [h1.1, h2.1, Nat.add_mul], fun i x hx => ?_⟩
  by_cases hi : i < l1.length
  · rw [List.getElem?_append_left hi] at hx
    have := h1.2 i x hx
    have hle := mul_le_of_lt (e := τ.size) hi
    have hl := h1.1
    rw [List.drop_append_of_le_length (by omega), List.take_append_of_le_length (by simp; omega)]
    exact this
  · rw [List.getElem?_append_right (by omega)] at hx
    have := h2.2 _ x hx
    have hl := h1.1
    have e : i * τ.size = c1.length + (i - l1.length) * τ.size := by
      rw [hl, ← Nat.add_mul]; congr 1; omega
    rw [e, List.drop_append, List.drop_of_length_le (by omega), List.nil_append, Nat.add_sub_cancel_left]
    exact this

theorem Rows.mono {τ : Ty} {l : List τ.den} {cs : List Value} {Z' : Nat → Prop} (hk : ∀ cb, Z cb → h'[cb]? = h[cb]?) (hz : ∀ cb, Z cb → Z' cb) (r : Rows h Z τ l cs) : Rows h' Z' τ l cs :=
  ⟨r.1, fun i x hx => (r.2 i x hx).mono hk hz⟩

/-- a part of rows -/
theorem Rows.cut {τ : Ty} {l : List τ.den} {cs : List Value} (r : Rows h Z τ l cs) (i n : Nat) (hn : i + n ≤ l.length) : Rows h Z τ ((l.drop i).take n) ((cs.drop (i * τ.size)).take (n * τ.size)) := by
  have hl := r.1
  have hmul : (i + n) * τ.size ≤ l.length * τ.size := Nat.mul_le_mul_right _ hn
  rw [Nat.add_mul] at hmul
  refine ⟨by simp; rw [Nat.min_eq_left (by omega), Nat.min_eq_left (by omega)], fun k x hx => ?_⟩
  rw [List.getElem?_take] at hx
  split at hx
  · rename_i hk
    rw [List.getElem?_drop] at hx
    have := r.2 _ x hx
    have hle := mul_le_of_lt (e := τ.size) hk
    rw [List.drop_take, List.take_take, Nat.min_eq_left (by omega), List.drop_drop, ← Nat.add_mul]
    exact this
  · cases hx

/-- the rows of a block -/
theorem rows_of {τ : Ty} {l : List τ.den} {c : Array Value} {base : Nat} (hfit : base + l.length * τ.size ≤ c.size) (hr : ∀ i x, l[i]? = some x → RD h Z τ x ((c.toList.drop (base + i * τ.size)).take τ.size)) :
    Rows h Z τ l ((c.toList.drop base).take (l.length * τ.size)) := by
  refine ⟨by simp; omega, fun i x hx => ?_⟩
  have hi : i < l.length := (List.getElem?_eq_some_iff.1 hx).1
  have hle := mul_le_of_lt (e := τ.size) hi
  rw [List.drop_take, List.take_take, Nat.min_eq_left (by omega), List.drop_drop]
  exact hr i x hx

theorem loadCells_at {cb off n : Nat} {c : Array Value} {Te : TypeId} {fz : Nat × Nat} (hc : w.heap[cb]? = some (.cells c Te fz)) (hs : off + n ≤ c.size) :
    (loadCells ⟨cb, off, none⟩ n).run P w = .ok ((c.toList.drop off).take n).toArray w := by
  have hl : ((c.toList.drop off).take n).length = n := by simp; omega
  have := run_loadCells_list (P := P) w ⟨cb, off, none⟩ ((c.toList.drop off).take n) (fun j v hj => by
    rw [addr_add, cell_of hc]
    rw [List.getElem?_take] at hj
    split at hj
    · simpa using hj
    · cases hj)
  rwa [hl] at this

/-- what a slice's elements are, and that they can be read -/
def Reads (P : Program) (h : Heap) (Z : Nat → Prop) (τ : Ty) (v : Value) (ys : List τ.den) (news : List Value) : Prop :=
  (∃ a cap, v = .slice a ys.length cap) ∧ Rows h Z τ ys news ∧ ∀ w : World, w.heap = h → (Builtin.firstCells τ.size ys.length v).run P w = .ok news.toArray w

theorem reads_nil {τ : Ty} : Reads P h Z τ (.slice none 0 0) [] [] := ⟨⟨none, 0, rfl⟩, Rows.nil, fun w _ => by simp [Builtin.firstCells]⟩

theorem reads_emp {τ : Ty} (a : Option Addr) (cap : Nat) : Reads P h Z τ (.slice a 0 cap) [] [] := ⟨⟨a, cap, rfl⟩, Rows.nil, fun w _ => by cases a <;> simp [Builtin.firstCells, loadCells, loadCellsFrom]⟩

theorem reads_sl (hm : RMem β M2 Z h) {b i : Nat} {m : Option Nat} {τ : Ty} {l : List τ.den} {g : Nat} {ro : Bool} (hb : M2 b = .row τ l g ro) {v : Value} (s : SlOk (M2 b) (β b) i m v) :
    ∃ news, Reads P h Z τ v (Go.Pv.cut l i m) news := by
  rcases s with ⟨e0, rfl, e1, rfl⟩ | ⟨cb, base, sz, top, off, len, cap, f1, rfl, f3, f4, f5, f6, f7⟩
  · rcases hm.row hb with ⟨rfl, _⟩ | ⟨_, _, _, _, _, g1, _⟩
    · rcases e1 with rfl | rfl <;> exact ⟨[], by simpa [Go.Pv.cut] using reads_nil⟩
    · rw [e0] at g1; cases g1
  · rcases hm.row hb with ⟨_, g1⟩ | ⟨cb', base', Te, c', fz', g1, g2, g3, g4, g5, g6⟩
    · rw [f1] at g1; cases g1
    · rw [f1] at g1
      simp only [Option.some.injEq, Loc.at.injEq] at g1
      obtain ⟨rfl, rfl, rfl, rfl⟩ := g1
      have hcut : Go.Pv.cut l i m = (l.drop i).take len ∧ i + len ≤ l.length := by
        cases m with
        | none => simp only [hb, Blk.cnt] at f7; simp only [Go.Pv.cut]; exact ⟨by rw [List.take_of_length_le (by simp; omega)], by omega⟩
        | some m => simp only [hb, Blk.cnt] at f7; simp only [Go.Pv.cut]; exact ⟨by rw [f7.1], by omega⟩
      have hlen : (Go.Pv.cut l i m).length = len := by rw [hcut.1]; simp; omega
      have hrows := (rows_of g4 g5).cut i len hcut.2
      rw [← hcut.1] at hrows
      have hmul : (i + len) * τ.size ≤ l.length * τ.size := Nat.mul_le_mul_right _ hcut.2
      rw [Nat.add_mul] at hmul
      rw [List.drop_take, List.take_take, Nat.min_eq_left (by omega), List.drop_drop] at hrows
      refine ⟨_, ⟨_, cap, by rw [hlen]⟩, hrows, fun w hw => ?_⟩
      rw [hlen]
      simp only [Builtin.firstCells]
      by_cases h0 : len = 0
      · subst h0
        simp [loadCells, loadCellsFrom]
      · rw [f3 (by omega)]
        exact loadCells_at (by rw [hw]; exact g2) (by omega)

theorem reads_fz {τ : Ty} {l : List τ.den} {v : Value} (hd : RD h Z (.slice τ) l [v]) : ∃ news, Reads P h Z τ v l news := by
  simp only [RD] at hd
  rcases hd with ⟨⟨a, cap, e1⟩, rfl⟩ | ⟨cb, off, cap, c', Te, fz', e1, e2, e3, e4, e5, e6⟩
  · simp only [List.cons.injEq, and_true] at e1; subst e1; exact ⟨[], reads_emp a cap⟩
  · simp only [List.cons.injEq, and_true] at e1; subst e1
    exact ⟨_, ⟨_, cap, rfl⟩, rows_of e5 e6, fun w hw => by simp only [Builtin.firstCells]; exact loadCells_at (by rw [hw]; exact e4) (by omega)⟩

theorem RL.seg {cs : List V} {vs : List Value} (r : RL β M2 Z h cs vs) (j n : Nat) : RL β M2 Z h ((cs.drop j).take n) ((vs.drop j).take n) := by
  refine ⟨by simp [r.1], fun i v u hv hu => ?_⟩
  rw [List.getElem?_take] at hv hu
  split at hv
  · rename_i hi
    rw [if_pos hi] at hu
    rw [List.getElem?_drop] at hv hu
    exact r.2 _ _ _ hv hu
  · cases hv

theorem elems_spec {τ : Ty} {x : V} {ys : List τ.den} {fp : List Nat} (he : elems M τ x = some (ys, fp)) (hM : ∀ b ∈ fp, M2 b = M b) (hm : RMem β M2 Z h) {v : Value} (r : RV β M2 Z h x v) :
    ∃ news, Reads P h Z τ v ys news := by
  cases x <;> simp only [elems, reduceCtorEq] at he
  case nils => simp only [Option.some.injEq, Prod.mk.injEq] at he; obtain ⟨rfl, rfl⟩ := he; rw [r.nils_inv]; exact ⟨[], reads_nil⟩
  case sl b i m g =>
    cases hb : M b <;> simp only [hb, reduceCtorEq] at he
    rename_i τ' l g' ro
    cases hq : Nat.beq g g' with
    | false => rw [hq] at he; cases he
    | true =>
      rw [hq] at he
      have q1 := Nat.eq_of_beq_eq_true hq
      subst q1
      simp only [cond_true] at he
      split at he
      · rename_i e
        subst e
        simp only [Option.some.injEq, Prod.mk.injEq] at he
        obtain ⟨rfl, rfl⟩ := he
        have hb2 : M2 b = .row τ' l g ro := by rw [hM b (by simp)]; exact hb
        exact reads_sl hm hb2 (r.sl_inv (by simp [hb2, Blk.gen]))
      · cases he
  case fz τ' l =>
    split at he
    · rename_i e
      subst e
      simp only [Option.some.injEq, Prod.mk.injEq] at he
      obtain ⟨rfl, rfl⟩ := he
      exact reads_fz r.fz_inv
    · cases he
  case sb b j s n =>
    cases hb : M b <;> simp only [hb, reduceCtorEq] at he
    rename_i cells
    cases hq : Nat.beq s τ.size && Nat.ble (j + n * s) cells.length with
    | false => rw [hq] at he; cases he
    | true =>
      rw [hq] at he
      simp only [cond_true] at he
      simp only [Bool.and_eq_true] at hq
      have q1 := Nat.eq_of_beq_eq_true hq.1
      have q2 := Nat.le_of_ble_eq_true hq.2
      subst q1
      split at he
      · rename_i l hd
        simp only [Option.some.injEq, Prod.mk.injEq] at he
        obtain ⟨rfl, rfl⟩ := he
        have hb2 : M2 b = .box cells := by rw [hM b (by simp)]; exact hb
        obtain ⟨_, _, cb, base, sz, top, cap, f1, f2, f3, f4⟩ := r.sb_inv (by rw [hb2]; rfl)
        obtain ⟨cb', Te, cc, g1, g2, g3⟩ := hm.box hb2
        rw [f1] at g1
        simp only [Option.some.injEq, Loc.at.injEq] at g1
        obtain ⟨rfl, rfl, rfl, rfl⟩ := g1
        have hcl : cells.length = cc.size := by have := g3.1; simpa using this
        have hd2 := decN_ok hd (g3.seg j (n * τ.size))
        refine ⟨_, ⟨_, cap, by rw [f2, hd2.1]⟩, ⟨by rw [hd2.1]; simp; omega, hd2.2⟩, fun w hw => ?_⟩
        rw [f2, hd2.1, Nat.zero_add]
        simp only [Builtin.firstCells]
        exact loadCells_at (by rw [hw]; exact g2) (by omega)
      · cases he

/-! ### append, run -/
theorem append_room {t t2 e e2 : TypeId} {i : TypeInfo} {ts : Array TypeId} {ty : TypeId} {args : Array Value} (h0 : ts[0]? = some t) (h1 : ts[1]? = some t2) (ht : P.underlying t = some (.slice e)) (ht2 : P.underlying t2 = some (.slice e2)) (hi : P.info? e = some i)
    {base : Option Addr} {sLen sCap n c : Nat} {a : Option Addr} {news : Array Value} (hv : args[1]? = some (.slice a n c)) (hs : args[0]? = some (.slice base sLen sCap)) (hf : (Builtin.firstCells i.size n (.slice a n c)).run P w = .ok news w) (hroom : sLen + n ≤ sCap) :
    (Builtin.append_ ts ty args).run P w = match base with
      | some b => ((storeCells (b.add (sLen * i.size)) news.toList).run P w).andThen fun _ w' => .ok (.slice base (sLen + n) sCap) w'
      | none => .ok (.slice base (sLen + n) sCap) w := by
  unfold Builtin.append_
  simp only [h0, h1, hs, hv, Sem.run_bind, run_underlying ht, run_underlying ht2, Result.andThen_ok, run_sizeOf' hi, Sem.run_pure, Bool.false_eq_true, if_false, Builtin.lenOf]
  rw [if_pos hroom]
  cases base <;> simp [hf]

theorem append_grow {t t2 e e2 : TypeId} {i : TypeInfo} {z : Value} {ts : Array TypeId} {ty : TypeId} {args : Array Value} (h0 : ts[0]? = some t) (h1 : ts[1]? = some t2) (ht : P.underlying t = some (.slice e)) (ht2 : P.underlying t2 = some (.slice e2)) (hi : P.info? e = some i) (hz : i.zero = some z)
    {base : Option Addr} {sLen sCap n c : Nat} {a : Option Addr} {news olds : Array Value} (hs : args[0]? = some (.slice base sLen sCap)) (hv : args[1]? = some (.slice a n c))
    (hf : ∀ w' : World, w'.heap = w.heap → (Builtin.firstCells i.size n (.slice a n c)).run P w' = .ok news w')
    (hfo : ∀ w' : World, w'.heap = w.heap → (Builtin.firstCells i.size sLen (.slice base sLen sCap)).run P w' = .ok olds w')
    (hg : sCap < sLen + n) (h63 : ((sLen + n : Nat) : Int) ≤ 9223372036854775807) (hfit : Builtin.nextslicecap (sLen + n) sCap * i.bytes ≤ 281474976710656) :
    (Builtin.append_ ts ty args).run P w = .ok (.slice (some ⟨w.heap.size, 0, none⟩) (sLen + n) (grownCap w (sLen + n) sCap e))
        (w.drew.alloc (.cells (olds ++ news ++ Builtin.zeroCells z.cells (grownCap w (sLen + n) sCap e - (sLen + n))) e)) := by
  have hn : ¬ (sLen + n ≤ sCap) := by omega
  have h63' : ¬ (((sLen + n : Nat) : Int) > IntKind.i64.max) := by
    have : IntKind.i64.max = 9223372036854775807 := by decide
    rw [this]; omega
  have h48' : ¬ (Builtin.nextslicecap (sLen + n) sCap * i.bytes > 2 ^ 48) := by omega
  have e1 := hf w.drew rfl
  have e2 := hfo w.drew rfl
  unfold Builtin.append_
  simp only [h0, h1, hs, hv, Sem.run_bind, run_underlying ht, run_underlying ht2, Result.andThen_ok, run_sizeOf' hi, Sem.run_pure, Bool.false_eq_true, if_false, Builtin.lenOf]
  rw [if_neg hn]
  simp only [Sem.run_bind, run_typeInfo _ hi, Result.andThen_ok, Sem.run_ite]
  rw [if_neg (by intro hh; exact h63' hh.1)]
  simp only [Sem.run_pure]
  rw [if_neg h48']
  simp only [Sem.run_pure, Result.andThen_ok, run_choose_drew, Question.forced, Bool.false_eq_true, if_false, run_askRoom, e2, run_zeroValue' hi hz, newRow, Sem.run_bind, run_newObj_alloc, Bool.not_false, if_true, e1]
  rfl

end
end Go.Pv
/-! ### append and copy: the abstract run is right. -/
namespace Go.Pv
section
variable {P : Program} {T : TypeId → TT} {o : Oper} {ev : Operand → V} {M : Mem} {R : Type}
variable {β β' : Nat → Option Loc} {M2 : Mem} {Z : Nat → Prop} {h h' : Heap} {w : World}

theorem grow_rows {τ : Ty} {l : List τ.den} {cs : Array Value} (r : Rows h Z τ l cs.toList) (z : Array Value) (n : Nat) (hz : z.size = τ.size) :
    (cs ++ Builtin.zeroCells z n).size = (l.length + n) * τ.size ∧ ∀ i x, l[i]? = some x → RD h Z τ x (((cs ++ Builtin.zeroCells z n).toList.drop (i * τ.size)).take τ.size) := by
  have hl := r.1
  simp at hl
  refine ⟨by simp [size_zeroCells, hz, hl, Nat.add_mul], fun i x hx => ?_⟩
  have hi : i < l.length := (List.getElem?_eq_some_iff.1 hx).1
  have hle := mul_le_of_lt (e := τ.size) hi
  have := r.2 i x hx
  rw [Array.toList_append, List.drop_append_of_le_length (by simp; omega), List.take_append_of_le_length (by simp; omega)]
  exact this

theorem elems_len {τ : Ty} {x : V} {ys : List τ.den} {fp : List Nat} (_he : elems M τ x = some (ys, fp)) : True := trivial

/-- the run of append by the abstract operation: what stands in the frame -/
theorem appendE_ok (hT : TOK P T) {q : Call} {id : Nat} {t t2 : TypeId} {x y : Operand} (ho : o.op = .call q) (hq : q.callee = .builtin .append)
    (ha0 : q.args.toList[0]? = some x) (ha1 : q.args.toList[1]? = some y) (ht0 : q.argTypes.toList[0]? = some t) (ht1 : q.argTypes.toList[1]? = some t2) {e2' : TypeId} (hk2 : (T t2).kind = .slice e2') :
    SOp P o ev M (R := R) (appendE T M id t (ev x) (ev y)) := by
  intro c r hr
  unfold appendE at hr
  cases hrow : rowOf T t with
  | none => simp [hrow] at hr
  | some qq =>
    obtain ⟨e, τ, s⟩ := qq
    simp only [hrow] at hr
    obtain ⟨ie, a1, a2, a3, a4, a5, a6, a7, hzero⟩ := rowOf_spec hT hrow
    subst a3
    obtain ⟨i2, d2, _, u2, u3, _⟩ := hT.info (t := t2) (by rw [hk2]; simp)
    have ht2 : ∃ e2, P.underlying t2 = some (.slice e2) := by
      rw [hk2] at u3; cases d2 <;> simp only [K.of, reduceCtorEq] at u3; exact ⟨_, u2⟩
    obtain ⟨e2, ht2⟩ := ht2
    obtain ⟨z, hz, hzs⟩ := hzero
    cases hel : elems M τ (ev y) with
    | none => simp [hel] at hr
    | some p =>
      obtain ⟨ys, fp⟩ := p
      simp only [hel] at hr
      have b0 : q.args[0]? = some x := by simpa using ha0
      have b1 : q.args[1]? = some y := by simpa using ha1
      have t0 : q.argTypes[0]? = some t := by simpa using ht0
      have t1 : q.argTypes[1]? = some t2 := by simpa using ht1
      have mem : ∀ {v : Operand}, v ∈ q.args.toList → v ∈ o.op.operands.toList := by
        intro v hv; simp [ho, Op.operands, Call.operands, hq]; simpa using hv
      have mx : x ∈ o.op.operands.toList := mem (List.mem_of_getElem? ha0)
      have my : y ∈ o.op.operands.toList := mem (List.mem_of_getElem? ha1)
      have fin : ∀ {a : Act} {w w' : World} {v : Value}, (Builtin.append_ q.argTypes o.type (q.args.map a.eval)).run P w = .ok v w' → (execOp a.eval o).run P w = .ok (.value v) w' := by
        intro a w w' v hrun
        simp [execOp, ho, resolve, hq, invoke, builtin, hrun]
      have op0 : ∀ {a : Act}, (q.args.map a.eval)[0]? = some (a.eval x) := by intro a; simp [b0]
      have op1 : ∀ {a : Act}, (q.args.map a.eval)[1]? = some (a.eval y) := by intro a; simp [b1]
      have hτ : 0 < τ.size := by omega
      cases hx : ev x <;> simp only [hx, reduceCtorEq] at hr
      case nils =>
        cases hb : decide (ys.length ≤ maxRow) with
        | false => rw [hb] at hr; cases hr
        | true =>
          rw [hb] at hr
          simp only [cond_true] at hr
          have hb' : ys.length ≤ 1000000000 := of_decide_eq_true hb
          obtain ⟨hid, hc⟩ := newE_inv hr
          refine ⟨_, OpOK.of_run (by simp) fun M2 hM β Z a w hm hxs => ?_, hc⟩
          have hid2 : M2 id = .none := by rw [hM id (by simp)]; exact hid
          have p1 := hxs x mx
          rw [hx] at p1
          have e1 := p1.nils_inv
          obtain ⟨news, ⟨ad, cap, e2⟩, n2, n3⟩ := elems_spec hel (fun b hb => hM b (by simp [hb])) hm (hxs y my)
          rw [a4] at n3
          have hl := n2.1
          by_cases h0 : ys.length = 0
          · have hys : ys = [] := List.eq_nil_of_length_eq_zero h0
            subst hys
            obtain ⟨k1, k2, k3⟩ := new_virt hm hid2 τ
            refine ⟨_, w, _, Z, .inl (fin ?_), k3, k1, k2, Wd.refl _⟩
            have hr := append_room (P := P) (w := w) (ty := o.type) t0 t1 a1 ht2 a2 (base := none) (sLen := 0) (sCap := 0) (news := news.toArray) (by rw [op1, e2]) (by rw [op0, e1]) (by rw [← e2]; exact n3 w rfl) (by simp)
            rw [hr]; simp
          · have hgc := grownCap_ge w (0 + ys.length) 0 e
            have hr := append_grow (P := P) (w := w) (ty := o.type) t0 t1 a1 ht2 a2 hz (base := none) (sLen := 0) (sCap := 0) (news := news.toArray) (olds := #[]) (by rw [op0, e1]) (by rw [op1, e2]) (fun w' hw => by rw [← e2]; exact n3 w' hw)
              (fun w' _ => by simp [Builtin.firstCells]) (by omega) (by omega) (growslice_fits (by omega) (by
                have : (0 + ys.length) * ie.bytes ≤ 1000000000 * 16384 := Nat.mul_le_mul (by omega) a5
                omega))
            have hgr := grow_rows (z := z.cells) (n := grownCap w (0 + ys.length) 0 e - (0 + ys.length)) (cs := #[] ++ news.toArray) (by simpa using n2) (by rw [hzs, a4])
            obtain ⟨k1, k2, k3⟩ := new_row hm hid2 (l := ys) (c := #[] ++ news.toArray ++ Builtin.zeroCells z.cells (grownCap w (0 + ys.length) 0 e - (0 + ys.length))) (cap := grownCap w (0 + ys.length) 0 e)
              (by rw [hgr.1]; congr 1; omega) (by omega) hgr.2 e
            refine ⟨_, _, _, Z, .inl (fin hr), ?_, k1, k2, Wd.grow _ _ _⟩
            simp only [Nat.zero_add] at k3 ⊢
            exact k3
      case sl b i m g =>
        cases m with
        | some m => simp at hr
        | none =>
          cases hbb : M b <;> simp only [hbb, reduceCtorEq] at hr
          rename_i τ' l g' ro
          cases hq2 : (Nat.beq g g' && !ro) with
          | false => rw [hq2] at hr; cases hr
          | true =>
            rw [hq2] at hr
            simp only [cond_true] at hr
            simp only [Bool.and_eq_true, Bool.not_eq_true'] at hq2
            have q1 := Nat.eq_of_beq_eq_true hq2.1
            have q2 := hq2.2
            subst q1; subst q2
            split at hr
            · rename_i eτ
              subst eτ
              cases hb : decide ((Go.Pv.cut l i none ++ ys).length ≤ maxRow) with
              | false => rw [hb] at hr; cases hr
              | true =>
                rw [hb] at hr
                simp only [cond_true] at hr
                have hb' : (Go.Pv.cut l i none ++ ys).length ≤ 1000000000 := of_decide_eq_true hb
                refine ⟨_, OpOK.of_run (by simp) fun M2 hM β Z a w hm hxs => ?_, hr⟩
                have p1 := hxs x mx
                rw [hx] at p1
                have hb2 : M2 b = .row τ' l g false := by rw [hM b (by simp)]; exact hbb
                have hgen : (M2 b).gen = some g := by simp [hb2, Blk.gen]
                have hown : (M2 b).own = true := by simp [hb2, Blk.own]
                have hsl := p1.sl_inv hgen
                obtain ⟨news, ⟨ad, cap, e2⟩, n2, n3⟩ := elems_spec hel (fun b hb => hM b (by simp [hb])) hm (hxs y my)
                obtain ⟨olds, ⟨ad0, cap0, e1⟩, o2, o3⟩ := reads_sl hm hb2 hsl
                rw [a4] at n3 o3
                have hl := n2.1
                have hlo := o2.1
                simp only [List.length_append] at hb'
                have hgg : ∃ g0 g', (M2 b).gen = some g0 ∧ (Blk.row τ' (Go.Pv.cut l i none ++ ys) (g + 1) false).gen = some g' ∧ g0 < g' := ⟨g, g + 1, hgen, rfl, by omega⟩
                obtain ⟨L, hcut⟩ : ∃ L, L = l.drop i := ⟨_, rfl⟩
                have hL : Go.Pv.cut l i none = L := hcut.symm
                simp only [hL] at e1 o2 o3 hlo hb' hgg ⊢
                by_cases hroom : L.length + ys.length ≤ cap0
                · -- in place
                  have hr := append_room (P := P) (w := w) (ty := o.type) t0 t1 a1 ht2 a2 (base := ad0) (sLen := L.length) (sCap := cap0) (news := news.toArray) (by rw [op1, e2]) (by rw [op0, e1]) (by rw [← e2]; exact n3 w rfl) hroom
                  rw [e1] at hsl
                  rcases hsl with ⟨v0, v1, v2, v3⟩ | ⟨cb, base, sz, top, off, len, cap1, f1, f2, f3, f4, f5, f6, f7⟩
                  · -- nowhere, and nothing comes
                    simp only [Value.slice.injEq] at v3
                    obtain ⟨rfl, v4, rfl⟩ := v3
                    have hys : ys = [] := List.eq_nil_of_length_eq_zero (by omega)
                    have hc0 : L = [] := List.eq_nil_of_length_eq_zero v4
                    subst hys
                    clear hcut hL
                    subst hc0
                    have ev := gr_ev (h' := w.heap) (loc' := .virt) hm hown hgg (Nat.le_refl _) (fun _ _ _ => rfl) (fun x hx => by simp [Loc.blk?] at hx)
                    refine ⟨_, w, _, Z, .inl (fin hr), ?_, gr_mem hm hown hgg (Nat.le_refl _) (fun _ _ _ => rfl) (fun x hx => by simp [Loc.blk?] at hx) ?_, ev, Wd.refl _⟩
                    · refine .sl b 0 none (g + 1) _ rfl (by simp [Mem.upds, upd_same]) fun g0 hg0 => ?_
                      simp only [Mem.upds, upd_same, Blk.gen, Option.some.injEq] at hg0 ⊢
                      subst hg0
                      exact ⟨Nat.le_refl _, fun _ => .inl ⟨updβ_same _ _ _, rfl, .inl rfl, by simp⟩⟩
                    · unfold RB; simp only [upd_same]; exact .inl ⟨by simp, updβ_same _ _ _⟩
                  · simp only [Value.slice.injEq] at f2
                    obtain ⟨rfl, f2', rfl⟩ := f2
                    rcases hm.row hb2 with ⟨_, g1⟩ | ⟨cb', base', Te, c', fz', g1, g2, g3, g4, g5, g6⟩
                    · rw [f1] at g1; cases g1
                    · rw [f1] at g1
                      simp only [Option.some.injEq, Loc.at.injEq] at g1
                      obtain ⟨rfl, rfl, rfl, rfl⟩ := g1
                      have hfz := g3 rfl
                      subst hfz
                      simp only [hb2, Blk.cnt] at f7
                      by_cases hcap : cap0 = 0
                      · -- no room at all: nothing comes
                        subst hcap
                        have hys : ys = [] := List.eq_nil_of_length_eq_zero (by omega)
                        have hc0 : L = [] := List.eq_nil_of_length_eq_zero (by omega)
                        subst hys
                        clear hcut hL
                        subst hc0
                        have hnews : news = [] := List.eq_nil_of_length_eq_zero (by simpa using hl)
                        subst hnews
                        have hrun : (Builtin.append_ q.argTypes o.type (q.args.map a.eval)).run P w = .ok (.slice (some ⟨cb, off, none⟩) 0 0) w := by
                          rw [hr]; simp [storeCells]
                        have hmul : base * 0 = 0 := rfl
                        have hloc : ∀ x, Loc.blk? (some (.at cb off τ'.size c'.size)) = some x → w.heap.size ≤ x ∨ Loc.blk? (β b) = some x := fun x hx => .inr (by rw [f1]; exact hx)
                        have ev := gr_ev (h' := w.heap) (loc' := .at cb off τ'.size c'.size) hm hown hgg (Nat.le_refl _) (fun _ _ _ => rfl) hloc
                        refine ⟨_, w, _, Z, .inl (fin hrun), ?_, gr_mem hm hown hgg (Nat.le_refl _) (fun _ _ _ => rfl) hloc ?_, ev, Wd.refl _⟩
                        · refine .sl b 0 none (g + 1) _ rfl (by simp [Mem.upds, upd_same]) fun g0 hg0 => ?_
                          simp only [Mem.upds, upd_same, Blk.gen, Option.some.injEq] at hg0 ⊢
                          subst hg0
                          exact ⟨Nat.le_refl _, fun _ => .inr ⟨cb, off, _, _, off, 0, 0, updβ_same _ _ _, rfl, by simp, f4, Nat.le_refl _, by simpa using f4, by simp [Blk.cnt]⟩⟩
                        · unfold RB; simp only [upd_same]
                          exact .inr ⟨cb, off, Te, c', _, updβ_same _ _ _, g2, fun _ => rfl, by simpa using f4, fun i x hx => by simp at hx, by simp⟩
                      · have hoff := f3 (by omega)
                        subst hoff
                        have hLl : L.length = l.length - i := by rw [hcut]; simp
                        have hil : i ≤ l.length := by omega
                        have hpos : base + i * τ'.size + L.length * τ'.size = base + l.length * τ'.size := by
                          rw [Nat.add_assoc, ← Nat.add_mul]; congr 2; omega
                        have hfit : base + l.length * τ'.size + news.length ≤ c'.size := by
                          rw [hl, Nat.add_assoc, ← Nat.add_mul]
                          have : (l.length + ys.length) * τ'.size ≤ (i + cap0) * τ'.size := Nat.mul_le_mul_right _ (by omega)
                          omega
                        have hst := run_storeCells_at P cb (base + l.length * τ'.size) Te news 0 c' w g2 (by simpa using hfit) (n2.flat hτ)
                        simp only [Nat.add_zero] at hst
                        have hrun : (Builtin.append_ q.argTypes o.type (q.args.map a.eval)).run P w = .ok (.slice (some ⟨cb, base + i * τ'.size, none⟩) (L.length + ys.length) cap0)
                            (w.setRow cb (c'.toList.take (base + l.length * τ'.size) ++ news ++ c'.toList.drop (base + l.length * τ'.size + news.length)).toArray) := by
                          rw [hr]
                          simp only [addr_add, ← a4, hpos] at hst ⊢
                          simp [hst]
                        generalize hp : base + l.length * τ'.size = p at *
                        have hcs : c'.toList.length = c'.size := Array.length_toList
                        have h3 : (c'.toList.take p ++ news ++ c'.toList.drop (p + news.length)).toArray.size = c'.size := by simp; omega
                        have hsz : (w.setRow cb (c'.toList.take p ++ news ++ c'.toList.drop (p + news.length)).toArray).heap.size = w.heap.size := by simp [World.setRow]
                        have hoth : ∀ x, x < w.heap.size → Loc.blk? (β b) ≠ some x → (w.setRow cb (c'.toList.take p ++ news ++ c'.toList.drop (p + news.length)).toArray).heap[x]? = w.heap[x]? := by
                          intro x _ hx
                          rw [f1] at hx
                          exact setRow_other w cb x _ (fun e => hx (by simp [Loc.blk?, e]))
                        have hloc : ∀ x, Loc.blk? (some (.at cb (base + i * τ'.size) τ'.size c'.size)) = some x → w.heap.size ≤ x ∨ Loc.blk? (β b) = some x := fun x hx => .inr (by rw [f1]; exact hx)
                        have ev := gr_ev (k' := .row τ' (L ++ ys) (g + 1) false) hm hown hgg (by rw [hsz]; exact Nat.le_refl _) hoth hloc
                        -- the rows as they lie now
                        have hrows : Rows w.heap Z τ' (L ++ ys) (((c'.toList.take p ++ news ++ c'.toList.drop (p + news.length)).drop (base + i * τ'.size)).take ((L ++ ys).length * τ'.size)) := by
                          have hr1 := (rows_of (h := w.heap) (Z := Z) (by rw [← hp] at hfit; omega : base + l.length * τ'.size ≤ c'.size) g5).cut i L.length (by omega)
                          have e5 : (l.drop i).take L.length = L := by rw [hcut, List.take_of_length_le (Nat.le_refl _)]
                          rw [e5] at hr1
                          have hr2 := hr1.append n2
                          refine (congrArg (Rows w.heap Z τ' (L ++ ys)) ?_).mpr hr2
                          have hmul : i * τ'.size + L.length * τ'.size = l.length * τ'.size := by rw [← Nat.add_mul]; congr 1; omega
                          apply List.ext_getElem?
                          intro k
                          simp only [List.getElem?_take, List.getElem?_drop, List.getElem?_append, List.length_take, List.length_drop, List.length_append, hcs, Nat.add_mul, ← hl]
                          have m1 : min p c'.size = p := by omega
                          have m2 : min (L.length * τ'.size) (min (l.length * τ'.size) (c'.size - base) - i * τ'.size) = L.length * τ'.size := by omega
                          simp only [m1, m2]
                          by_cases hk : k < L.length * τ'.size
                          · simp only [hk, if_true, show k < L.length * τ'.size + news.length from by omega, show base + i * τ'.size + k < p + news.length from by omega, show base + i * τ'.size + k < p from by omega, show i * τ'.size + k < l.length * τ'.size from by omega]
                            congr 1; omega
                          · simp only [hk, if_false]
                            by_cases hk2 : k < L.length * τ'.size + news.length
                            · simp only [hk2, if_true, show base + i * τ'.size + k < p + news.length from by omega, show ¬ base + i * τ'.size + k < p from by omega, if_false]
                              congr 1; omega
                            · simp only [hk2, if_false]
                              rw [List.getElem?_eq_none (by omega)]
                        refine ⟨_, _, _, Z, .inl (fin hrun), ?_, gr_mem hm hown hgg (by rw [hsz]; exact Nat.le_refl _) hoth hloc ?_, ev, Wd.setRow _ _ _⟩
                        · refine .sl b 0 none (g + 1) _ rfl (by simp [Mem.upds, upd_same]) fun g0 hg0 => ?_
                          simp only [Mem.upds, upd_same, Blk.gen, Option.some.injEq] at hg0 ⊢
                          subst hg0
                          refine ⟨Nat.le_refl _, fun _ => .inr ⟨cb, base + i * τ'.size, _, _, base + i * τ'.size, L.length + ys.length, cap0, updβ_same _ _ _, rfl, fun _ => by simp, f4, hroom, ?_, by simp [Blk.cnt]⟩⟩
                          rw [Nat.zero_add, Nat.add_assoc, ← Nat.add_mul]; exact f6
                        · unfold RB; simp only [upd_same]
                          refine .inr ⟨cb, base + i * τ'.size, Te, _, (0, 0), by rw [updβ_same, h3], setRow_heap w cb c' _ Te _ g2, fun _ => rfl, ?_, fun k x hx => ?_, by simp⟩
                          · rw [h3, List.length_append, Nat.add_mul]; omega
                          · have hk : k < (L ++ ys).length := (List.getElem?_eq_some_iff.1 hx).1
                            have := (hrows.2 k x hx).mono ev.zkeep ev.zmono
                            have hle := mul_le_of_lt (e := τ'.size) hk
                            rw [List.drop_take, List.take_take, Nat.min_eq_left (by omega), List.drop_drop] at this
                            simpa using this
                · -- elsewhere
                  have hgc := grownCap_ge w (L.length + ys.length) cap0 e
                  have hr := append_grow (P := P) (w := w) (ty := o.type) t0 t1 a1 ht2 a2 hz (base := ad0) (sLen := L.length) (sCap := cap0) (news := news.toArray) (olds := olds.toArray) (by rw [op0, e1]) (by rw [op1, e2]) (fun w' hw => by rw [← e2]; exact n3 w' hw)
                    (fun w' hw => by rw [← e1]; exact o3 w' hw) (by omega) (by omega) (growslice_fits (by omega) (by
                      have : (L.length + ys.length) * ie.bytes ≤ 1000000000 * 16384 := Nat.mul_le_mul (by omega) a5
                      omega))
                  have hgr := grow_rows (z := z.cells) (n := grownCap w (L.length + ys.length) cap0 e - (L.length + ys.length)) (cs := olds.toArray ++ news.toArray) (by simpa using o2.append n2) (by rw [hzs, a4])
                  have hcsz : (olds.toArray ++ news.toArray ++ Builtin.zeroCells z.cells (grownCap w (L.length + ys.length) cap0 e - (L.length + ys.length))).size = grownCap w (L.length + ys.length) cap0 e * τ'.size := by
                    rw [hgr.1, List.length_append]; congr 1; omega
                  generalize hcc : olds.toArray ++ news.toArray ++ Builtin.zeroCells z.cells (grownCap w (L.length + ys.length) cap0 e - (L.length + ys.length)) = cc at *
                  generalize grownCap w (L.length + ys.length) cap0 e = gc at *
                  have hs' : w.heap.size ≤ (w.drew.alloc (.cells cc e)).heap.size := by simp [World.alloc]
                  have hh' : ∀ x, x < w.heap.size → Loc.blk? (β b) ≠ some x → (w.drew.alloc (.cells cc e)).heap[x]? = w.heap[x]? := fun x hlt _ => heap_alloc_old w.drew _ x hlt
                  have hloc : ∀ x, Loc.blk? (some (.at w.heap.size 0 τ'.size cc.size)) = some x → w.heap.size ≤ x ∨ Loc.blk? (β b) = some x := fun x hx => by
                    simp only [Loc.blk?, Option.some.injEq] at hx; exact .inl (by omega)
                  have ev := gr_ev (k' := .row τ' (L ++ ys) (g + 1) false) hm hown hgg hs' hh' hloc
                  refine ⟨_, _, _, Z, .inl (fin hr), ?_, gr_mem hm hown hgg hs' hh' hloc ?_, ev, Wd.grow _ _ _⟩
                  · refine .sl b 0 none (g + 1) _ rfl (by simp [Mem.upds, upd_same]) fun g0 hg0 => ?_
                    simp only [Mem.upds, upd_same, Blk.gen, Option.some.injEq] at hg0 ⊢
                    subst hg0
                    exact ⟨Nat.le_refl _, fun _ => .inr ⟨w.heap.size, 0, _, _, 0, L.length + ys.length, gc, updβ_same _ _ _, rfl, by simp, Nat.zero_le _, hgc, by simp [hcsz], by simp [Blk.cnt]⟩⟩
                  · unfold RB; simp only [upd_same]
                    refine .inr ⟨w.heap.size, 0, e, cc, (0, 0), updβ_same _ _ _, heap_alloc_new w.drew _, fun _ => rfl, ?_, fun k x hx => ?_, by simp⟩
                    · rw [hcsz, Nat.zero_add]; exact Nat.mul_le_mul_right _ (by simpa using hgc)
                    · have := (hgr.2 k x hx).mono ev.zkeep ev.zmono
                      simpa using this
            · cases hr

end
end Go.Pv
/-! ### copy into an array: the abstract run is right. -/
namespace Go.Pv

section
variable {P : Program} {T : TypeId → TT} {R : Type} {o : Oper} {ev : Operand → V}
variable {β : Nat → Option Loc} {M M2 : Mem} {Z : Nat → Prop} {h : Heap} {w : World}

theorem cutg {α : Type} {l : List α} {i : Nat} {m : Option Nat} {k : Nat} {x : α} (h : (Go.Pv.cut l i m)[k]? = some x) : l[i + k]? = some x := by
  unfold Go.Pv.cut at h
  cases m with
  | none => simpa using h
  | some m =>
    simp only [List.getElem?_take] at h
    split at h
    · simpa using h
    · cases h

/-- where a list's elements lie -/
theorem elems_at {τ : Ty} {x : V} {ys : List τ.den} {fp : List Nat} (he : elems M τ x = some (ys, fp)) (hM : ∀ b ∈ fp, M2 b = M b) (hm : RMem β M2 Z h) {v : Value} (r : RV β M2 Z h x v) :
    ∃ a cap, v = .slice a ys.length cap ∧ (ys = [] ∨ ∃ cb off c Te fz, a = some ⟨cb, off, none⟩ ∧ h[cb]? = some (.cells c Te fz) ∧ (0 < ys.length → off + ys.length * τ.size ≤ c.size ∧
      ∀ i x, ys[i]? = some x → RD h Z τ x ((c.toList.drop (off + i * τ.size)).take τ.size))) := by
  cases x <;> simp only [elems, reduceCtorEq] at he
  case nils =>
    simp only [Option.some.injEq, Prod.mk.injEq] at he
    obtain ⟨rfl, rfl⟩ := he
    rw [r.nils_inv]
    exact ⟨none, 0, rfl, .inl rfl⟩
  case sl b i m g =>
    cases hb : M b <;> simp only [hb, reduceCtorEq] at he
    rename_i τ' l g' ro
    cases hq : Nat.beq g g' with
    | false => rw [hq] at he; cases he
    | true =>
      rw [hq] at he
      have q1 := Nat.eq_of_beq_eq_true hq
      subst q1
      simp only [cond_true] at he
      split at he
      · rename_i e
        subst e
        simp only [Option.some.injEq, Prod.mk.injEq] at he
        obtain ⟨rfl, rfl⟩ := he
        have hb2 : M2 b = .row τ' l g ro := by rw [hM b (by simp)]; exact hb
        have s := r.sl_inv (g := g) (by simp [hb2, Blk.gen])
        rcases s with ⟨e0, rfl, e1, rfl⟩ | ⟨cb, base, sz, top, off, len, cap, f1, rfl, f3, f4, f5, f6, f7⟩
        · rcases hm.row hb2 with ⟨rfl, _⟩ | ⟨_, _, _, _, _, g1, _⟩
          · exact ⟨none, 0, by rcases e1 with rfl | rfl <;> simp [Go.Pv.cut], .inl (by rcases e1 with rfl | rfl <;> simp [Go.Pv.cut])⟩
          · rw [e0] at g1; cases g1
        · rcases hm.row hb2 with ⟨_, g1⟩ | ⟨cb', base', Te, c', fz', g1, g2, g3, g4, g5, g6⟩
          · rw [f1] at g1; cases g1
          · rw [f1] at g1
            simp only [Option.some.injEq, Loc.at.injEq] at g1
            obtain ⟨rfl, rfl, rfl, rfl⟩ := g1
            have hcut : (Go.Pv.cut l i m).length = len ∧ i + len ≤ l.length := by
              cases m with
              | none => simp only [hb2, Blk.cnt] at f7; simp only [Go.Pv.cut, List.length_drop]; omega
              | some m => simp only [hb2, Blk.cnt] at f7; simp only [Go.Pv.cut, List.length_take, List.length_drop]; omega
            refine ⟨_, cap, by rw [hcut.1], .inr ⟨cb, off, c', Te, fz', rfl, g2, fun h0 => ?_⟩⟩
            rw [hcut.1] at h0 ⊢
            have hoff := f3 (by omega)
            have hmul : (i + len) * τ'.size ≤ l.length * τ'.size := Nat.mul_le_mul_right _ hcut.2
            rw [Nat.add_mul] at hmul
            refine ⟨by omega, fun k x hx => ?_⟩
            have := g5 (i + k) x (cutg hx)
            rw [hoff, Nat.add_assoc, ← Nat.add_mul]
            exact this
      · cases he
  case fz τ' l =>
    split at he
    · rename_i e
      subst e
      simp only [Option.some.injEq, Prod.mk.injEq] at he
      obtain ⟨rfl, rfl⟩ := he
      have hd := r.fz_inv
      simp only [RD] at hd
      rcases hd with ⟨⟨a, cap, e1⟩, rfl⟩ | ⟨cb, off, cap, c', Te, fz', e1, e2, e3, e4, e5, e6⟩
      · simp only [List.cons.injEq, and_true] at e1; subst e1; exact ⟨a, cap, rfl, .inl rfl⟩
      · simp only [List.cons.injEq, and_true] at e1; subst e1
        exact ⟨_, cap, rfl, .inr ⟨cb, off, c', Te, fz', rfl, e4, fun _ => ⟨e5, e6⟩⟩⟩
    · cases he
  case sb b j s n =>
    cases hb : M b <;> simp only [hb, reduceCtorEq] at he
    rename_i cells
    cases hq : Nat.beq s τ.size && Nat.ble (j + n * s) cells.length with
    | false => rw [hq] at he; cases he
    | true =>
      rw [hq] at he
      simp only [cond_true] at he
      simp only [Bool.and_eq_true] at hq
      have q1 := Nat.eq_of_beq_eq_true hq.1
      have q2 := Nat.le_of_ble_eq_true hq.2
      subst q1
      split at he
      · rename_i l hd
        simp only [Option.some.injEq, Prod.mk.injEq] at he
        obtain ⟨rfl, rfl⟩ := he
        have hb2 : M2 b = .box cells := by rw [hM b (by simp)]; exact hb
        obtain ⟨_, _, cb, base, sz, top, cap, f1, f2, f3, f4⟩ := r.sb_inv (by rw [hb2]; rfl)
        obtain ⟨cb', Te, cc, g1, g2, g3⟩ := hm.box hb2
        rw [f1] at g1
        simp only [Option.some.injEq, Loc.at.injEq] at g1
        obtain ⟨rfl, rfl, rfl, rfl⟩ := g1
        have hcl : cells.length = cc.size := by have := g3.1; simpa using this
        have hd2 := decN_ok hd (g3.seg j (n * τ.size))
        refine ⟨_, cap, by rw [f2, hd2.1], .inr ⟨cb, 0 + j, cc, Te, _, rfl, g2, fun _ => ⟨by rw [hd2.1]; omega, fun i x hx => ?_⟩⟩⟩
        have h1 := hd2.2 i x hx
        have hi : i < n := by rw [← hd2.1]; exact (List.getElem?_eq_some_iff.1 hx).1
        have hle : (i + 1) * τ.size ≤ n * τ.size := Nat.mul_le_mul_right _ hi
        rw [Nat.add_mul, Nat.one_mul] at hle
        rw [List.drop_take, List.take_take, Nat.min_eq_left (by omega), List.drop_drop] at h1
        rw [Nat.zero_add]
        exact h1
      · cases he

theorem RL.getD {cs : List V} {vs : List Value} (r : RL β M Z h cs vs) (i : Nat) : RV β M Z h (cs.getD i .dead) (vs.getD i undef) := by
  by_cases hi : i < cs.length
  · have hl := r.1
    have h1 : cs[i]? = some cs[i] := List.getElem?_eq_getElem hi
    have h2 : vs[i]? = some (vs[i]'(by omega)) := List.getElem?_eq_getElem (by omega)
    have := r.2 i _ _ h1 h2
    simpa [List.getD, h1, h2] using this
  · have : cs.getD i .dead = .dead := by simp [List.getD, Nat.not_lt.1 hi]
    rw [this]; exact .dead _

theorem copyNew_len (cells : List V) (j s : Nat) (τ : Ty) (ys : List τ.den) : ∀ n, (copyNew cells j s τ ys n).length = n * s
  | 0 => by simp [copyNew]
  | n + 1 => by simp [copyNew, copyNew_len cells j s τ ys n, Nat.add_mul]

/-- the cells as they are afterwards -/
theorem copyNew_ok {cells : List V} {old news : List Value} {j : Nat} {τ : Ty} {ys : List τ.den} (hr : RL β M Z h cells old) {F : List Value}
    (hn : ∀ i x, i < ys.length → ys[i]? = some x → RD h Z τ x ((news.drop (i * τ.size)).take τ.size)) :
    ∀ n, j + n * τ.size ≤ F.length → (∀ i, i < n → i < ys.length → (F.drop (j + i * τ.size)).take τ.size = (news.drop (i * τ.size)).take τ.size) →
      (∀ i, i < n → ¬ i < ys.length → ∀ r, r < τ.size → F.getD (j + i * τ.size + r) undef = old.getD (j + i * τ.size + r) undef) → RL β M Z h (copyNew cells j τ.size τ ys n) ((F.drop j).take (n * τ.size))
  | 0, _, _, _ => by simp only [copyNew, Nat.zero_mul, List.take_zero]; exact RL.nil
  | n + 1, hF, h1, h2 => by
    have hF' : j + n * τ.size + τ.size ≤ F.length := by rw [Nat.add_mul, Nat.one_mul] at hF; omega
    have ih := copyNew_ok (F := F) hr hn n (by omega) (fun i hi => h1 i (by omega)) (fun i hi => h2 i (by omega))
    have e : (F.drop j).take ((n + 1) * τ.size) = (F.drop j).take (n * τ.size) ++ (F.drop (j + n * τ.size)).take τ.size := by
      rw [Nat.add_mul, Nat.one_mul, List.take_add, List.drop_drop]
    rw [e]
    simp only [copyNew]
    refine RL.append ih ⟨by simp; omega, fun r v u hv hu => ?_⟩
    rw [List.getElem?_map] at hv
    cases hrr : (List.range τ.size)[r]? with
    | none => rw [hrr] at hv; cases hv
    | some r' =>
      have hlt := (List.getElem?_eq_some_iff.1 hrr).1
      have hr' : r' = r := by have := (List.getElem?_eq_some_iff.1 hrr).2; simp at this; exact this.symm
      subst hr'
      rw [hrr] at hv
      simp only [Option.map_some, Option.some.injEq] at hv
      subst hv
      have hlt' : r' < τ.size := by simpa using hlt
      cases hb : Nat.blt n ys.length with
      | true =>
        rw [sel_true]
        have hn' : n < ys.length := Nat.le_of_ble_eq_true hb
        have hg : ys[n]? = some ys[n] := List.getElem?_eq_getElem hn'
        have hd : ys.getD n τ.dflt = ys[n] := by simp [List.getD, hg]
        rw [h1 n (by omega) hn'] at hu
        have hrd := RL.of_RD (β := β) (M2 := M) (hn n _ hn' hg)
        have := hrd.getD r'
        rw [hd]
        have hu2 : ((news.drop (n * τ.size)).take τ.size).getD r' undef = u := by simp [List.getD, hu]
        rwa [hu2] at this
      | false =>
        rw [sel_false]
        have hn' : ¬ n < ys.length := fun e => by
          have : Nat.blt n ys.length = true := Nat.ble_eq_true_of_le e
          rw [this] at hb; cases hb
        have := hr.getD (j + n * τ.size + r')
        rw [← h2 n (by omega) hn' r' hlt'] at this
        rw [List.getElem?_take, if_pos hlt', List.getElem?_drop] at hu
        have hu2 : F.getD (j + n * τ.size + r') undef = u := by simp [List.getD, hu]
        rwa [hu2] at this

/-- writing elements at a row's head -/
theorem row_fill (hm : RMem β M2 Z w.heap) {b : Nat} {τ : Ty} {l ys : List τ.den} {g k : Nat} (hb : M2 b = .row τ l g false) (hk : k ≤ l.length) (hky : k ≤ ys.length) {nv : List Value} (hnl : nv.length = k * τ.size)
    (hn : ∀ i x, i < k → ys[i]? = some x → RD w.heap Z τ x ((nv.drop (i * τ.size)).take τ.size))
    {cb base : Nat} {c : Array Value} {Te : TypeId} (hβ : β b = some (.at cb base τ.size c.size)) (hc : w.heap[cb]? = some (.cells c Te (0, 0)))
    (hfit : base + l.length * τ.size ≤ c.size) (hr : ∀ i x, l[i]? = some x → RD w.heap Z τ x ((c.toList.drop (base + i * τ.size)).take τ.size)) :
    RMem β (M2.upd b (.row τ (ys.take k ++ l.drop k) g false)) Z (w.setRow cb (c.toList.take base ++ nv ++ c.toList.drop (base + nv.length)).toArray).heap ∧
    Ev β M2 Z w.heap β (M2.upd b (.row τ (ys.take k ++ l.drop k) g false)) Z (w.setRow cb (c.toList.take base ++ nv ++ c.toList.drop (base + nv.length)).toArray).heap := by
  have hkl : k * τ.size ≤ l.length * τ.size := Nat.mul_le_mul_right _ hk
  have hlen : (ys.take k ++ l.drop k).length = l.length := by simp; omega
  have hsz : (w.setRow cb (c.toList.take base ++ nv ++ c.toList.drop (base + nv.length)).toArray).heap.size = w.heap.size := by simp [World.setRow]
  have hoth : ∀ x, Loc.blk? (β b) ≠ some x → (w.setRow cb (c.toList.take base ++ nv ++ c.toList.drop (base + nv.length)).toArray).heap[x]? = w.heap[x]? := by
    intro x hx
    rw [hβ] at hx
    exact setRow_other w cb x _ (fun e => hx (by simp [Loc.blk?, e]))
  have hgl : (Blk.row τ (ys.take k ++ l.drop k) g false).len = (M2 b).len := by simp only [hb, Blk.len, hlen]
  have hgen : (Blk.row τ (ys.take k ++ l.drop k) g false).gen = (M2 b).gen := by simp only [hb, Blk.gen]
  have ho : (M2 b).own = true := by simp [hb, Blk.own]
  have hl : Loc.blk? (β b) = some cb ∨ β b = some .virt := .inl (by rw [hβ]; rfl)
  have hcnt : (Blk.row τ (ys.take k ++ l.drop k) g false).cnt = (M2 b).cnt := by simp only [hb, Blk.cnt]; exact hlen
  have hbox : (Blk.row τ (ys.take k ++ l.drop k) g false).isBox = (M2 b).isBox := by simp only [hb, Blk.isBox]
  have ev := wr_ev hm ho hl hgen hgl hcnt hbox hsz hoth
  refine ⟨wr_mem hm ho hl hgen hgl hcnt hbox hsz hoth ?_, ev⟩
  unfold RB
  simp only [upd_same]
  have hclen : c.toList.length = c.size := Array.length_toList
  have h3 : (c.toList.take base ++ nv ++ c.toList.drop (base + nv.length)).toArray.size = c.size := by simp; omega
  refine .inr ⟨cb, base, Te, _, (0, 0), by rw [hβ, h3], setRow_heap w cb c _ Te _ hc, by simp, by rw [h3, hlen]; exact hfit, ?_, by simp⟩
  intro i x hx
  have hi : i < l.length := by rw [← hlen]; exact (List.getElem?_eq_some_iff.1 hx).1
  have hli := mul_le_of_lt (e := τ.size) hi
  have hlt : (ys.take k).length = k := by simp; omega
  by_cases hik : i < k
  · rw [List.getElem?_append_left (by omega), List.getElem?_take, if_pos hik] at hx
    refine RD.mono ev.zkeep ev.zmono ?_
    refine (congrArg (RD w.heap Z τ x) ?_).mpr (hn i x hik hx)
    have hle := mul_le_of_lt (e := τ.size) hik
    apply List.ext_getElem?
    intro q
    simp only [List.getElem?_take, List.getElem?_drop]
    by_cases hq : q < τ.size
    · simp only [hq, if_true]
      rw [List.append_assoc, List.getElem?_append_right (by simp; omega), List.getElem?_append_left (by simp; omega)]
      congr 1
      simp; omega
    · simp only [hq, if_false]
  · rw [List.getElem?_append_right (by omega), List.getElem?_drop, hlt, show k + (i - k) = i by omega] at hx
    refine RD.mono ev.zkeep ev.zmono ?_
    refine (congrArg (RD w.heap Z τ x) ?_).mpr (hr i x hx)
    have hle : k * τ.size ≤ i * τ.size := Nat.mul_le_mul_right _ (by omega)
    apply List.ext_getElem?
    intro q
    simp only [List.getElem?_take, List.getElem?_drop]
    by_cases hq : q < τ.size
    · simp only [hq, if_true]
      rw [List.getElem?_append_right (by simp; omega), List.getElem?_drop]
      congr 1
      simp; omega
    · simp only [hq, if_false]
theorem copyRowE_ok (hT : TOK P T) {q : Call} {t : TypeId} {x y : Operand} (ho : o.op = .call q) (hq : q.callee = .builtin .copy)
    (ha0 : q.args.toList[0]? = some x) (ha1 : q.args.toList[1]? = some y) (ht0 : q.argTypes.toList[0]? = some t) {e τ s} (hrow : rowOf T t = some (e, τ, s)) {ys : List τ.den} {fp : List Nat} (hel : elems M τ (ev y) = some (ys, fp))
    {b i : Nat} {m : Option Nat} {g : Nat} (hx : ev x = .sl b i m g) : SOp P o ev M (R := R) (copyRowE M τ ys fp b i m g) := by
  intro c r hr
  unfold copyRowE at hr
  obtain ⟨ie, a1, a2, a3, a4, a5, a6, a7, hzero⟩ := rowOf_spec hT hrow
  subst a3
  cases hbb : M b <;> simp only [hbb, reduceCtorEq] at hr
  rename_i τ' l g' ro
  cases hq2 : (Nat.beq g g' && (Nat.beq i 0 && (m.isNone && (!ro && Nat.blt 0 l.length)))) with
  | false => rw [hq2] at hr; cases hr
  | true =>
    rw [hq2] at hr
    simp only [cond_true] at hr
    simp only [Bool.and_eq_true, Bool.not_eq_true'] at hq2
    obtain ⟨q1, q2, q3, q4, q5⟩ := hq2
    have q1 := Nat.eq_of_beq_eq_true q1
    have q2 := Nat.eq_of_beq_eq_true q2
    have q5 : 0 < l.length := Nat.le_of_ble_eq_true q5
    subst q1 q2 q4
    cases m with
    | some _ => cases q3
    | none =>
    split at hr
    · rename_i e1
      subst e1
      simp only at hr
      have b0 : q.args[0]? = some x := by simpa using ha0
      have b1 : q.args[1]? = some y := by simpa using ha1
      have t0 : q.argTypes[0]? = some t := by simpa using ht0
      have mem : ∀ {v : Operand}, v ∈ q.args.toList → v ∈ o.op.operands.toList := by
        intro v hv; simp [ho, Op.operands, Call.operands, hq]; simpa using hv
      have mx : x ∈ o.op.operands.toList := mem (List.mem_of_getElem? ha0)
      have my : y ∈ o.op.operands.toList := mem (List.mem_of_getElem? ha1)
      have hτ : 0 < τ'.size := by omega
      refine ⟨_, OpOK.of_run (by simp) fun M2 hM β Z a w hm hxs => ?_, hr⟩
      have hb2 : M2 b = .row τ' l g false := by rw [hM b (by simp)]; exact hbb
      have p1 := hxs x mx
      rw [hx] at p1
      have sl := p1.sl_inv (g := g) (by simp [hb2, Blk.gen])
      rcases hm.row hb2 with ⟨h0, _⟩ | ⟨cb, base, Te, cc, fz, g1, g2, g3, g4, g5, g6⟩
      · rw [h0] at q5; simp at q5
      have hfz : fz = (0, 0) := g3 rfl
      subst hfz
      rcases sl with ⟨e0, _⟩ | ⟨cb', base', sz, top, off, len, cap, f1, f2, f3, f4, f5, f6, f7⟩
      · rw [e0] at g1; cases g1
      rw [f1] at g1
      simp only [Option.some.injEq, Loc.at.injEq] at g1
      obtain ⟨rfl, rfl, rfl, rfl⟩ := g1
      simp only [hb2, Blk.cnt, Nat.zero_add] at f7
      subst f7
      have hoff := f3 (by omega)
      rw [Nat.zero_mul, Nat.add_zero] at hoff
      subst hoff
      obtain ⟨sa, scap, e2, hsrc⟩ := elems_at hel (fun b hb => hM b (by simp [hb])) hm (hxs y my)
      obtain ⟨k, hk⟩ : ∃ k, k = Nat.min ys.length l.length := ⟨_, rfl⟩
      have hkn : k ≤ l.length := by rw [hk]; exact Nat.min_le_right _ _
      have hky : k ≤ ys.length := by rw [hk]; exact Nat.min_le_left _ _
      have hkn' : k * τ'.size ≤ l.length * τ'.size := Nat.mul_le_mul_right _ hkn
      obtain ⟨news, n1, n2, n3, n4⟩ : ∃ news : List Value, (Builtin.firstCells ie.size k (a.eval y)).run P w = .ok news.toArray w ∧ news.length = k * τ'.size ∧
          (∀ u ∈ news, u.oneCell' = true) ∧ ∀ i x, i < k → ys[i]? = some x → RD w.heap Z τ' x ((news.drop (i * τ'.size)).take τ'.size) := by
        rcases hsrc with rfl | ⟨scb, soff, sc, sTe, sfz, rfl, s1, s2⟩
        · have hk0 : k = 0 := by simpa using hky
          subst hk0
          exact ⟨[], by rw [e2]; cases sa <;> simp [Builtin.firstCells, loadCells, loadCellsFrom], by simp, by simp, fun i x hi => by omega⟩
        · by_cases hk0 : k = 0
          · subst hk0
            exact ⟨[], by rw [e2]; simp [Builtin.firstCells, loadCells, loadCellsFrom], by simp, by simp, fun i x hi => by omega⟩
          · obtain ⟨s3, s4⟩ := s2 (by omega)
            have hmul : k * τ'.size ≤ ys.length * τ'.size := Nat.mul_le_mul_right _ hky
            have hlk : (ys.take k).length = k := by simp; omega
            have hrows : Rows w.heap Z τ' (ys.take k) ((sc.toList.drop soff).take ((ys.take k).length * τ'.size)) := rows_of (by rw [hlk]; omega) fun i x hx => by
              refine s4 i x ?_
              rw [List.getElem?_take] at hx
              split at hx
              · exact hx
              · cases hx
            rw [hlk] at hrows
            refine ⟨(sc.toList.drop soff).take (k * τ'.size), ?_, by simp; omega, hrows.flat hτ, fun i x hi hx => ?_⟩
            · rw [e2]; simp only [Builtin.firstCells, ← a4]; exact loadCells_at s1 (by omega)
            · exact hrows.2 i x (by rw [List.getElem?_take, if_pos hi]; exact hx)
      have hst := run_storeCells_at P cb' off Te news 0 cc w g2 (by rw [n2]; omega) n3
      simp only [Nat.add_zero] at hst
      have hrun : (execOp a.eval o).run P w = .ok (.value (goInt k)) (w.setRow cb' (cc.toList.take off ++ news ++ cc.toList.drop (off + news.length)).toArray) := by
        have hc : (Builtin.copy_ q.argTypes o.type (q.args.map a.eval)).run P w = .ok (goInt k) (w.setRow cb' (cc.toList.take off ++ news ++ cc.toList.drop (off + news.length)).toArray) := by
          unfold Builtin.copy_
          have i0 : (q.args.map a.eval)[0]? = some (a.eval x) := by simp [b0]
          have i1 : (q.args.map a.eval)[1]? = some (a.eval y) := by simp [b1]
          simp only [t0, i0, i1, f2, Sem.run_bind, run_underlying a1, Result.andThen_ok, e2, Builtin.lenOf, Sem.run_pure, run_sizeOf' a2]
          rw [← hk, ← e2, n1]
          simp only [Result.andThen_ok, hst]
        simp [execOp, ho, resolve, hq, invoke, builtin, hc]
      have hwr := row_fill (w := w) hm hb2 hkn hky n2 n4 f1 g2 g4 g5
      have hl1 : ys.take l.length = ys.take k := by
        by_cases hc1 : ys.length ≤ l.length
        · have : k = ys.length := by rw [hk]; exact Nat.min_eq_left hc1
          rw [List.take_of_length_le hc1, this, List.take_length]
        · have : k = l.length := by rw [hk]; exact Nat.min_eq_right (by omega)
          rw [this]
      have hl2 : l.drop ys.length = l.drop k := by
        by_cases hc1 : ys.length ≤ l.length
        · have : k = ys.length := by rw [hk]; exact Nat.min_eq_left hc1
          rw [this]
        · have : k = l.length := by rw [hk]; exact Nat.min_eq_right (by omega)
          rw [this, List.drop_eq_nil_of_le (by omega), List.drop_eq_nil_of_le (by omega)]
      rw [hl1, hl2, ← hk]
      exact ⟨_, _, β, Z, .inl hrun, .int _ _, hwr.1, ⟨hwr.2, Wd.setRow _ _ _⟩⟩
    · cases hr
theorem copyE_ok (hT : TOK P T) {q : Call} {t : TypeId} {x y : Operand} (ho : o.op = .call q) (hq : q.callee = .builtin .copy)
    (ha0 : q.args.toList[0]? = some x) (ha1 : q.args.toList[1]? = some y) (ht0 : q.argTypes.toList[0]? = some t) :
    SOp P o ev M (R := R) (copyE T M t (ev x) (ev y)) := by
  intro c r hr
  unfold copyE at hr
  cases hrow : rowOf T t with
  | none => simp [hrow] at hr
  | some qq =>
    obtain ⟨e, τ, s⟩ := qq
    simp only [hrow] at hr
    obtain ⟨ie, a1, a2, a3, a4, a5, a6, a7, hzero⟩ := rowOf_spec hT hrow
    subst a3
    cases hel : elems M τ (ev y) with
    | none => simp [hel] at hr
    | some p =>
      obtain ⟨ys, fp⟩ := p
      simp only [hel] at hr
      cases hx : ev x <;> simp only [hx, reduceCtorEq] at hr
      case sl b i m g => exact copyRowE_ok hT ho hq ha0 ha1 ht0 hrow hel hx c r hr
      rename_i b j s' n
      cases hbb : M b <;> simp only [hbb, reduceCtorEq] at hr
      rename_i cells
      cases hq2 : (Nat.beq ie.size s' && Nat.ble (j + n * ie.size) cells.length) with
      | false => rw [hq2] at hr; cases hr
      | true =>
        rw [hq2] at hr
        simp only [cond_true] at hr
        simp only [Bool.and_eq_true] at hq2
        have q1 := Nat.eq_of_beq_eq_true hq2.1
        have q2 := Nat.le_of_ble_eq_true hq2.2
        subst q1
        have b0 : q.args[0]? = some x := by simpa using ha0
        have b1 : q.args[1]? = some y := by simpa using ha1
        have t0 : q.argTypes[0]? = some t := by simpa using ht0
        have mem : ∀ {v : Operand}, v ∈ q.args.toList → v ∈ o.op.operands.toList := by
          intro v hv; simp [ho, Op.operands, Call.operands, hq]; simpa using hv
        have mx : x ∈ o.op.operands.toList := mem (List.mem_of_getElem? ha0)
        have my : y ∈ o.op.operands.toList := mem (List.mem_of_getElem? ha1)
        have hτ : 0 < τ.size := by omega
        refine ⟨_, OpOK.of_run (by simp) fun M2 hM β Z a w hm hxs => ?_, hr⟩
        have hb2 : M2 b = .box cells := by rw [hM b (by simp)]; exact hbb
        have p1 := hxs x mx
        rw [hx] at p1
        obtain ⟨_, _, cb, base, sz, top, cap, f1, f2, f3, f4⟩ := p1.sb_inv (by rw [hb2]; rfl)
        obtain ⟨cb', Te, cc, g1, g2, g3⟩ := hm.box hb2
        rw [f1] at g1
        simp only [Option.some.injEq, Loc.at.injEq] at g1
        obtain ⟨rfl, rfl, rfl, rfl⟩ := g1
        rw [Nat.zero_add] at f2
        obtain ⟨sa, scap, e2, hsrc⟩ := elems_at hel (fun b hb => hM b (by simp [hb])) hm (hxs y my)
        have hcl : cells.length = cc.size := by have := g3.1; simpa using this
        obtain ⟨k, hk⟩ : ∃ k, k = Nat.min ys.length n := ⟨_, rfl⟩
        have hkn : k ≤ n := by rw [hk]; exact Nat.min_le_right _ _
        have hky : k ≤ ys.length := by rw [hk]; exact Nat.min_le_left _ _
        have hkn' : k * τ.size ≤ n * τ.size := Nat.mul_le_mul_right _ hkn
        -- what is read
        obtain ⟨news, n1, n2, n3, n4⟩ : ∃ news : List Value, (Builtin.firstCells ie.size k (a.eval y)).run P w = .ok news.toArray w ∧ news.length = k * τ.size ∧
            (∀ u ∈ news, u.oneCell' = true) ∧ ∀ i x, i < k → ys[i]? = some x → RD w.heap Z τ x ((news.drop (i * τ.size)).take τ.size) := by
          rcases hsrc with rfl | ⟨scb, off, sc, sTe, sfz, rfl, s1, s2⟩
          · have hk0 : k = 0 := by simpa using hky
            subst hk0
            exact ⟨[], by rw [e2]; cases sa <;> simp [Builtin.firstCells, loadCells, loadCellsFrom], by simp, by simp, fun i x hi => by omega⟩
          · by_cases hk0 : k = 0
            · subst hk0
              exact ⟨[], by rw [e2]; simp [Builtin.firstCells, loadCells, loadCellsFrom], by simp, by simp, fun i x hi => by omega⟩
            · obtain ⟨s3, s4⟩ := s2 (by omega)
              have hmul : k * τ.size ≤ ys.length * τ.size := Nat.mul_le_mul_right _ hky
              have hlk : (ys.take k).length = k := by simp; omega
              have hrows : Rows w.heap Z τ (ys.take k) ((sc.toList.drop off).take ((ys.take k).length * τ.size)) := rows_of (by rw [hlk]; omega) fun i x hx => by
                refine s4 i x ?_
                rw [List.getElem?_take] at hx
                split at hx
                · exact hx
                · cases hx
              rw [hlk] at hrows
              refine ⟨(sc.toList.drop off).take (k * τ.size), ?_, by simp; omega, hrows.flat hτ, fun i x hi hx => ?_⟩
              · rw [e2]; simp only [Builtin.firstCells, ← a4]; exact loadCells_at s1 (by omega)
              · exact hrows.2 i x (by rw [List.getElem?_take, if_pos hi]; exact hx)
        -- what is written
        rw [← a4, hcl] at q2
        have hst := run_storeCells_at P cb j Te news 0 cc w g2 (by rw [n2]; omega) n3
        simp only [Nat.add_zero] at hst
        obtain ⟨F, hF⟩ : ∃ F, F = cc.toList.take j ++ news ++ cc.toList.drop (j + news.length) := ⟨_, rfl⟩
        rw [← hF] at hst
        have hccl : cc.toList.length = cc.size := Array.length_toList
        have hFl : F.length = cc.size := by rw [hF]; simp; omega
        have hrun : (execOp a.eval o).run P w = .ok (.value (goInt k)) (w.setRow cb F.toArray) := by
          have hc : (Builtin.copy_ q.argTypes o.type (q.args.map a.eval)).run P w = .ok (goInt k) (w.setRow cb F.toArray) := by
            unfold Builtin.copy_
            have i0 : (q.args.map a.eval)[0]? = some (a.eval x) := by simp [b0]
            have i1 : (q.args.map a.eval)[1]? = some (a.eval y) := by simp [b1]
            simp only [t0, i0, i1, f2, Sem.run_bind, run_underlying a1, Result.andThen_ok, e2, Builtin.lenOf, Sem.run_pure, run_sizeOf' a2]
            rw [← hk, ← e2, n1]
            simp only [Result.andThen_ok, hst]
          simp [execOp, ho, resolve, hq, invoke, builtin, hc]
        have hFr : ∀ p, p < j → F[p]? = cc.toList[p]? := fun p hp => by
          rw [hF, List.append_assoc, List.getElem?_append_left (by simp; omega), List.getElem?_take, if_pos hp]
        have hnew := copyNew_ok (F := F) (j := j) (news := news) (ys := ys.take k) g3 (fun i x hi hx => n4 i x (by simp at hi; omega) (by
          rw [List.getElem?_take] at hx
          split at hx
          · exact hx
          · cases hx)) n (by omega) (fun i hi hlt => by
            have hik : i < k := by simp at hlt; omega
            have hle : (i + 1) * τ.size ≤ k * τ.size := Nat.mul_le_mul_right _ hik
            rw [Nat.add_mul, Nat.one_mul] at hle
            rw [hF, List.append_assoc, List.drop_append, List.drop_of_length_le (by simp; omega), List.nil_append]
            have e5 : j + i * τ.size - (cc.toList.take j).length = i * τ.size := by simp; omega
            rw [e5, List.drop_append_of_le_length (by omega), List.take_append_of_le_length (by simp; omega)]) (fun i hi hge r hr => by
            have hik : k ≤ i := by simp at hge; omega
            have hle : k * τ.size ≤ i * τ.size := Nat.mul_le_mul_right _ hik
            have hle2 : (i + 1) * τ.size ≤ n * τ.size := Nat.mul_le_mul_right _ hi
            rw [Nat.add_mul, Nat.one_mul] at hle2
            have e6 : F[j + i * τ.size + r]? = cc.toList[j + i * τ.size + r]? := by
              rw [hF, List.getElem?_append_right (by simp; omega), List.getElem?_drop]
              congr 1
              simp; omega
            simp only [List.getD, e6])
        -- the list shortened is no other
        have hsame : ∀ m, m ≤ n → copyNew cells j τ.size τ (ys.take k) m = copyNew cells j τ.size τ ys m := by
          intro m
          induction m with
          | zero => intro _; rfl
          | succ m ih =>
            intro hm
            simp only [copyNew]
            rw [ih (by omega)]
            congr 1
            apply List.map_congr_left
            intro r _
            by_cases hmk : m < k
            · have h1 : Nat.blt m (ys.take k).length = true := Nat.ble_eq_true_of_le (by simp; omega)
              have h2 : Nat.blt m ys.length = true := Nat.ble_eq_true_of_le (by omega)
              have h3 : (ys.take k).getD m τ.dflt = ys.getD m τ.dflt := by simp only [List.getD]; rw [List.getElem?_take, if_pos hmk]
              rw [h1, h2, h3]
            · have hky2 : k = ys.length := by
                have : k = min ys.length n := hk
                omega
              have h4 : ys.take k = ys := List.take_of_length_le (by omega)
              rw [h4]
        rw [hsame n (Nat.le_refl _)] at hnew
        have hwr := box_write (w := w) hm hb2 hnew (by rw [copyNew_len, hcl]; exact q2) f1 g2 g3
        have hnl : ((F.drop j).take (n * τ.size)).length = n * τ.size := by simp; omega
        rw [hnl] at hwr
        have hFF : cc.toList.take j ++ (F.drop j).take (n * τ.size) ++ cc.toList.drop (j + n * τ.size) = F := by
          have h1 : cc.toList.take j = F.take j := by
            apply List.ext_getElem?
            intro p
            rw [List.getElem?_take, List.getElem?_take]
            split
            · rename_i hp; exact (hFr p hp).symm
            · rfl
          have h2 : cc.toList.drop (j + n * τ.size) = F.drop (j + n * τ.size) := by
            apply List.ext_getElem?
            intro p
            rw [List.getElem?_drop, List.getElem?_drop, hF, List.getElem?_append_right (by simp; omega), List.getElem?_drop]
            congr 1
            simp; omega
          rw [h1, h2, List.append_assoc]
          conv => rhs; rw [← List.take_append_drop j F]
          congr 1
          conv => rhs; rw [← List.take_append_drop (n * τ.size) (F.drop j)]
          rw [List.drop_drop]
        rw [hFF] at hwr
        simp only [← a4, ← hk]
        exact ⟨_, _, β, Z, .inl hrun, .int _ _, hwr.1, ⟨hwr.2, Wd.setRow _ _ _⟩⟩

end
end Go.Pv
/-! ### Freezing: live slices become data that are written no more. -/
namespace Go.Pv
theorem beq_self (a : Nat) : Nat.beq a a = true := Nat.beq_refl a
theorem upds_not {b : Nat} : ∀ {u : List (Nat × Blk)} {M : Mem}, b ∉ u.map (·.1) → (M.upds u) b = M b
  | [], _, _ => rfl
  | (x, k) :: r, M, h => by
    simp only [List.map_cons, List.mem_cons, not_or] at h
    simp only [Mem.upds]
    rw [upds_not h.2, upd_ne _ _ h.1]

theorem upds_congr {b : Nat} : ∀ {u : List (Nat × Blk)} {M M' : Mem}, M b = M' b → (M.upds u) b = (M'.upds u) b
  | [], _, _, h => h
  | (x, k) :: r, M, M', h => by
    simp only [Mem.upds]
    refine upds_congr ?_
    by_cases e : b = x
    · subst e; rw [upd_same, upd_same]
    · rw [upd_ne _ _ e, upd_ne _ _ e]; exact h

theorem upds_in {b : Nat} : ∀ {u : List (Nat × Blk)} {M M' : Mem}, b ∈ u.map (·.1) → (M.upds u) b = (M'.upds u) b
  | [], _, _, h => by simp at h
  | (x, k) :: r, M, M', h => by
    simp only [Mem.upds]
    by_cases e : b ∈ r.map (·.1)
    · exact upds_in e
    · simp only [List.map_cons, List.mem_cons] at h
      rcases h with h | h
      · subst h; refine upds_congr ?_; rw [upd_same, upd_same]
      · exact absurd h e

def lend (M : Mem) : (τ : Ty) → V → Option (τ.den × List Nat)
  | .slice e, v => match v with
    | .sl b i m g => match M b with
      | .row τ' l g' _ => if h : τ' = e then (bif Nat.beq g g' then some (h ▸ Go.Pv.cut l i m, [b]) else none) else none
      | _ => none
    | _ => none
  | _, _ => none

section
variable {P : Program} {β β' : Nat → Option Loc} {M M' : Mem} {Z Z' : Nat → Prop} {h h' : Heap}
theorem RD.more {Z Z' : Nat → Prop} (hz : ∀ cb, Z cb → Z' cb) {τ : Ty} {x : τ.den} {cs : List Value} (r : RD h Z τ x cs) : RD h Z' τ x cs := r.mono (fun _ _ => rfl) hz

theorem cut_get {α : Type} {l : List α} {i : Nat} {m : Option Nat} {k : Nat} {x : α} (h : (Go.Pv.cut l i m)[k]? = some x) : l[i + k]? = some x := by
  unfold Go.Pv.cut at h
  cases m with
  | none => simpa using h
  | some m =>
    simp only [List.getElem?_take] at h
    split at h
    · simpa using h
    · cases h

theorem lend_ok (hm : RMem β M Z h) {τ : Ty} {v : V} {u : Value} {x : τ.den} {fp : List Nat} (hl : lend M τ v = some (x, fp)) (hv : RV β M Z h v u) {Z1 : Nat → Prop}
    (hz : ∀ cb, Z cb → Z1 cb) (hfp : ∀ b ∈ fp, ∀ cb, lies β M b cb → Z1 cb) : RD h Z1 τ x [u] := by
  unfold lend at hl
  split at hl
  · rename_i e _
    split at hl
    · rename_i b i m g
      split at hl
      · rename_i τ' l g' ro hb
        split at hl
        · rename_i he
          subst he
          cases hq : Nat.beq g g' with
          | false => rw [hq] at hl; cases hl
          | true =>
            rw [hq] at hl
            have hg := Nat.eq_of_beq_eq_true hq
            subst hg
            simp only [cond_true, Option.some.injEq, Prod.mk.injEq] at hl
            obtain ⟨rfl, rfl⟩ := hl
            have hgen : (M b).gen = some g := by rw [hb]; rfl
            have hs := hv.sl_inv hgen
            have hrb := hm.blk b
            unfold RB at hrb
            rw [hb] at hrb hs
            simp only at hrb
            simp only [RD]
            rcases hs with ⟨e0, rfl, e1, rfl⟩ | ⟨cb, base, sz, top, off, len, cap, f1, rfl, f3, f4, f5, f6, f7⟩
            · rcases hrb with ⟨rfl, _⟩ | ⟨_, _, _, _, _, g1, _⟩
              · left
                refine ⟨⟨none, 0, rfl⟩, ?_⟩
                rcases e1 with rfl | rfl <;> simp [Go.Pv.cut]
              · rw [e0] at g1; cases g1
            · rcases hrb with ⟨_, g1⟩ | ⟨cb', base', Te, c', fz', g1, g2, g3, g4, g5, g6⟩
              · rw [g1] at f1; cases f1
              · rw [g1] at f1
                simp only [Option.some.injEq, Loc.at.injEq] at f1
                obtain ⟨rfl, rfl, rfl, rfl⟩ := f1
                have hlen : (Go.Pv.cut l i m).length = len := by
                  cases m with
                  | none => simp only [Go.Pv.cut, List.length_drop]; simp only [Blk.cnt] at f7; omega
                  | some m => simp only [Go.Pv.cut, List.length_take, List.length_drop]; simp only [Blk.cnt] at f7; omega
                right
                refine ⟨cb', off, cap, c', Te, fz', by rw [hlen], by rw [hlen]; exact f5, hfp b (by simp) cb' ⟨by rw [hgen]; simp, by rw [g1]; rfl⟩, g2, ?_, fun k x hx => ?_⟩
                · rw [hlen]
                  by_cases hc : 0 < cap
                  · have := f3 hc
                    have h2 : (i + cap) * τ'.size = i * τ'.size + cap * τ'.size := Nat.add_mul _ _ _
                    have h3 : len * τ'.size ≤ cap * τ'.size := Nat.mul_le_mul_right _ f5
                    omega
                  · have : len = 0 := by omega
                    rw [this]; omega
                · have hk : k < len := by rw [← hlen]; exact (List.getElem?_eq_some_iff.1 hx).1
                  have hoff := f3 (by omega)
                  have := g5 (i + k) x (cut_get hx)
                  have e : base' + (i + k) * τ'.size = off + k * τ'.size := by rw [hoff, Nat.add_mul]; omega
                  rw [e] at this
                  exact this.more hz
        · cases hl
      · cases hl
    · cases hl
  · cases hl

end
/-- values one after the other -/
def frzA (M : Mem) : List V → List V × List (Nat × Blk)
  | [] => ([], [])
  | v :: r => match frzV M v with
    | (v', u) => match frzA (M.upds u) r with
      | (r', u') => (v' :: r', u ++ u')

section
variable {β β' : Nat → Option Loc} {M M' : Mem} {Z : Nat → Prop} {w : World}

theorem upds_append (M : Mem) : ∀ (u v : List (Nat × Blk)), M.upds (u ++ v) = (M.upds u).upds v
  | [], _ => rfl
  | (b, k) :: r, v => by
    simp only [List.cons_append, Mem.upds]
    exact upds_append (M.upd b k) r v

/-- what freezing comes to: nothing in the world; the state says less -/
structure FrzOK (β : Nat → Option Loc) (M : Mem) (Z : Nat → Prop) (w : World) (u : List (Nat × Blk)) (Z' : Nat → Prop) : Prop where
  mem : RMem β (M.upds u) Z' w.heap
  ev : EvW β M Z w β (M.upds u) Z' w

theorem FrzOK.none (hm : RMem β M Z w.heap) : FrzOK β M Z w [] Z := ⟨hm, EvW.refl _ _ _ _⟩
theorem FrzOK.trans {u v : List (Nat × Blk)} {Z' Z'' : Nat → Prop} (h1 : FrzOK β M Z w u Z') (h2 : FrzOK β (M.upds u) Z' w v Z'') : FrzOK β M Z w (u ++ v) Z'' :=
  ⟨by rw [upds_append]; exact h2.mem, by rw [upds_append]; exact h1.ev.trans h2.ev⟩

theorem frz_row (hm : RMem β M Z w.heap) {b : Nat} {τ : Ty} {l : List τ.den} {g : Nat} {ro : Bool} (hb : M b = .row τ l g ro) :
    FrzOK β M Z w [(b, .row τ l g true)] fun cb => Z cb ∨ lies β M b cb := by
  have hM : ∀ b', b' ≠ b → (M.upd b (.row τ l g true)) b' = M b' := fun b' h => upd_ne _ _ h
  have hMb : (M.upd b (.row τ l g true)) b = .row τ l g true := upd_same _ _ _
  have hgen : ∀ b', ((M.upd b (.row τ l g true)) b').gen = (M b').gen := fun b' => by
    by_cases e : b' = b
    · subst e; rw [hMb, hb]; rfl
    · rw [hM b' e]
  have hlies : ∀ b' cb, lies β (M.upd b (.row τ l g true)) b' cb ↔ lies β M b' cb := fun b' cb => by unfold lies; rw [hgen]
  have hown : ∀ b', ((M.upd b (.row τ l g true)) b').own = true → b' ≠ b ∧ (M b').own = true := fun b' h => by
    by_cases e : b' = b
    · subst e; rw [hMb] at h; cases h
    · rw [hM b' e] at h; exact ⟨e, h⟩
  have gr : Grow β M Z w.heap β (M.upd b (.row τ l g true)) (fun cb => Z cb ∨ lies β M b cb) w.heap := by
    refine ⟨fun _ _ => rfl, fun _ h => .inl h, fun b' h => ?_, fun b' _ h => by rw [hgen]; exact h, fun b' g0 hg0 g1 hg1 => ?_⟩
    · by_cases e : b' = b
      · subst e; rw [hMb]; simp
      · rw [hM b' e]; exact h
    · rw [hgen, hg0] at hg1; cases hg1
      refine ⟨Nat.le_refl _, fun _ => ?_⟩
      by_cases e : b' = b
      · subst e; rw [hMb, hb]; exact ⟨rfl, rfl, rfl, rfl⟩
      · rw [hM b' e]; exact ⟨rfl, rfl, rfl, rfl⟩
  have lie_b : ∀ cb, lies β M b cb → Z cb ∨ (M b).own = true := fun cb hl => by
    cases ro with
    | false => right; rw [hb]; rfl
    | true =>
      left
      have hrb := hm.blk b
      unfold RB at hrb
      rw [hb] at hrb
      rcases hrb with ⟨_, f1⟩ | ⟨cb', base, T, c, fz, f1, _, _, _, _, f6⟩
      · rw [lies, f1] at hl; simp [Loc.blk?] at hl
      · rw [lies, f1] at hl
        simp only [Loc.blk?, Option.some.injEq] at hl
        rw [← hl.2]; exact f6 rfl
  refine ⟨⟨fun b' => ?_, fun b' b'' cb h1 h2 h3 => ?_, fun cb hz ho => ?_, hm.zlt.mono (fun _ _ => rfl) (fun _ h => .inl h) fun cb hz => ?_⟩, ⟨{ toGrow := gr, size := Nat.le_refl _, frame := fun _ _ _ => rfl, own := fun cb ho => .inr ?_, znew := fun cb hz => ?_ }, Wd.refl _⟩⟩
  · simp only [Mem.upds]
    by_cases e : b' = b
    · subst e
      have hrb := hm.blk b'
      unfold RB at hrb ⊢
      rw [hb] at hrb
      rw [hMb]
      simp only at hrb ⊢
      rcases hrb with f | ⟨cb', base, T, c, fz, f1, f2, f3, f4, f5, f6⟩
      · exact .inl f
      · refine .inr ⟨cb', base, T, c, fz, f1, f2, (fun h => by cases h), f4, fun i x hx => (f5 i x hx).more fun _ h => .inl h, fun _ => .inr ?_⟩
        exact ⟨by rw [hb]; simp [Blk.gen], by rw [f1]; rfl⟩
    · exact (hm.blk b').keep gr (hM b' e) (fun _ => rfl) fun _ _ => rfl
  · obtain ⟨e1, e2⟩ := hown b' h1
    exact hm.sep b' b'' cb e2 ((hlies b' cb).1 h2) ((hlies b'' cb).1 h3)
  · obtain ⟨b', h1, h2⟩ := ho
    obtain ⟨e1, e2⟩ := hown b' h1
    have h3 := (hlies b' cb).1 h2
    rcases hz with hz | hz
    · exact hm.zown cb hz ⟨b', e2, h3⟩
    · exact e1 (hm.sep b' b cb e2 h3 hz)
  · rcases hz with hz | hz
    · exact hm.zlt.lt cb hz
    · exact lies_lt (hm.blk b) hz
  · obtain ⟨b', h1, h2⟩ := ho
    obtain ⟨e1, e2⟩ := hown b' h1
    exact ⟨b', e2, (hlies b' cb).1 h2⟩
  · rcases hz with hz | hz
    · exact .inl hz
    · rcases lie_b cb hz with h | h
      · exact .inl h
      · exact .inr (.inr ⟨b, h, hz⟩)

theorem frz1_ok (hm : RMem β M Z w.heap) {v : V} {x : Value} (hv : RV β M Z w.heap v x) : ∃ Z', FrzOK β M Z w (frz1 M v).2 Z' ∧ RV β (M.upds (frz1 M v).2) Z' w.heap (frz1 M v).1 x := by
  unfold frz1
  split
  · rename_i b i m g
    split
    · rename_i τ l g' ro hb
      cases hq : Nat.beq g g' with
      | false => exact ⟨Z, FrzOK.none hm, hv⟩
      | true =>
        have := Nat.eq_of_beq_eq_true hq
        subst this
        simp only [cond_true]
        have hf := frz_row (w := w) hm hb
        refine ⟨_, hf, .fz _ _ _ ?_⟩
        have hl : lend M (.slice τ) (.sl b i m g) = some (cut l i m, [b]) := by
          unfold lend
          simp only [hb, dite_true, beq_self, cond_true]
        exact lend_ok hm hl hv (fun cb h => .inl h) fun b' hb' cb hlie => by
          simp at hb'; subst hb'; exact .inr hlie
    · exact ⟨Z, FrzOK.none hm, hv⟩
  · exact ⟨Z, FrzOK.none hm, hv⟩

theorem frzL_ok : ∀ {cs : List V} {M : Mem} {Z : Nat → Prop} {xs : List Value}, RMem β M Z w.heap → RL β M Z w.heap cs xs → ∃ Z', FrzOK β M Z w (frzL M cs).2 Z' ∧ RL β (M.upds (frzL M cs).2) Z' w.heap (frzL M cs).1 xs
  | [], M, Z, xs, hm, hr => ⟨Z, FrzOK.none hm, hr⟩
  | v :: r, M, Z, xs, hm, hr => by
    obtain ⟨u, us, rfl, h1, h2⟩ := hr.cons_inv
    obtain ⟨Z1, f1, r1⟩ := frz1_ok hm h1
    obtain ⟨Z2, f2, r2⟩ := frzL_ok f1.mem (h2.mono f1.ev.toEv.toGrow)
    refine ⟨Z2, f1.trans f2, ?_⟩
    simp only [frzL]
    rw [upds_append]
    exact RL.cons (r1.mono f2.ev.toEv.toGrow) r2

theorem frzV_ok (hm : RMem β M Z w.heap) {v : V} {x : Value} (hv : RV β M Z w.heap v x) : ∃ Z', FrzOK β M Z w (frzV M v).2 Z' ∧ RV β (M.upds (frzV M v).2) Z' w.heap (frzV M v).1 x := by
  unfold frzV
  split
  · rename_i cs
    obtain ⟨vs, rfl, hl, hc⟩ := hv.agg_inv
    obtain ⟨Z', f, r⟩ := frzL_ok hm (RL.of_arr hl hc)
    obtain ⟨e1, e2⟩ := RL.to_arr r
    exact ⟨Z', f, .agg _ _ e1 e2⟩
  · exact frz1_ok hm hv

theorem frzA_ok : ∀ {cs : List V} {M : Mem} {Z : Nat → Prop} {xs : List Value}, RMem β M Z w.heap → RL β M Z w.heap cs xs → ∃ Z', FrzOK β M Z w (frzA M cs).2 Z' ∧ RL β (M.upds (frzA M cs).2) Z' w.heap (frzA M cs).1 xs
  | [], M, Z, xs, hm, hr => ⟨Z, FrzOK.none hm, hr⟩
  | v :: r, M, Z, xs, hm, hr => by
    obtain ⟨u, us, rfl, h1, h2⟩ := hr.cons_inv
    obtain ⟨Z1, f1, r1⟩ := frzV_ok hm h1
    obtain ⟨Z2, f2, r2⟩ := frzA_ok f1.mem (h2.mono f1.ev.toEv.toGrow)
    refine ⟨Z2, f1.trans f2, ?_⟩
    simp only [frzA]
    rw [upds_append]
    exact RL.cons (r1.mono f2.ev.toEv.toGrow) r2
end
/-! ### Freezing in another memory that looks the same -/
theorem frz1_congr {M M2 : Mem} {v : V} (hs : (match (frz1 M v).1 with
    | .sl _ _ _ _ => false
    | _ => true) = true) (hM : ∀ b ∈ (frz1 M v).2.map (·.1), M2 b = M b) : frz1 M2 v = frz1 M v := by
  cases v with
  | sl b i m g =>
    simp only [frz1] at hs hM ⊢
    cases hb : M b with
    | row τ l g' ro =>
      rw [hb] at hs hM
      simp only at hs hM
      cases hq : Nat.beq g g' with
      | false => rw [hq] at hs; simp at hs
      | true =>
        rw [hq] at hM
        have := hM b (by simp)
        rw [this, hb]
    | none => rw [hb] at hs; simp at hs
    | dead => rw [hb] at hs; simp at hs
    | box c => rw [hb] at hs; simp at hs
    | mp _ _ _ => rw [hb] at hs; simp at hs
  | _ => rfl

theorem upds_agree {M M2 : Mem} {u : List (Nat × Blk)} {b : Nat} (h : b ∉ u.map (·.1) → M2 b = M b) : (M2.upds u) b = (M.upds u) b := by
  by_cases e : b ∈ u.map (·.1)
  · exact upds_in e
  · exact upds_congr (h e)

theorem frzL_congr : ∀ {cs : List V} {M M2 : Mem}, ((frzL M cs).1.all fun c => match c with
    | .sl _ _ _ _ => false
    | _ => true) = true → (∀ b ∈ (frzL M cs).2.map (·.1), M2 b = M b) → frzL M2 cs = frzL M cs
  | [], _, _, _, _ => rfl
  | v :: r, M, M2, hs, hM => by
    simp only [frzL, List.all_cons, Bool.and_eq_true, List.map_append, List.mem_append] at hs hM
    have e1 := frz1_congr (M2 := M2) hs.1 fun b hb => hM b (.inl hb)
    have e2 := frzL_congr (M2 := M2.upds (frz1 M v).2) hs.2 fun b hb => upds_agree fun _ => hM b (.inr hb)
    simp only [frzL, e1, e2]

theorem frzV_congr {M M2 : Mem} {v : V} (hs : (frzV M v).1.solid = true) (hM : ∀ b ∈ (frzV M v).2.map (·.1), M2 b = M b) : frzV M2 v = frzV M v := by
  cases v with
  | agg cs =>
    simp only [frzV] at hs hM ⊢
    have := frzL_congr (M2 := M2) hs hM
    rw [this]
  | sl b i m g =>
    simp only [frzV] at hs hM ⊢
    refine frz1_congr ?_ hM
    revert hs
    cases (frz1 M (.sl b i m g)).1 <;> simp [V.solid]
  | _ => rfl

theorem frzA_congr : ∀ {cs : List V} {M M2 : Mem}, (frzA M cs).1.all V.solid = true → (∀ b ∈ (frzA M cs).2.map (·.1), M2 b = M b) → frzA M2 cs = frzA M cs
  | [], _, _, _, _ => rfl
  | v :: r, M, M2, hs, hM => by
    simp only [frzA, List.all_cons, Bool.and_eq_true, List.map_append, List.mem_append] at hs hM
    have e1 := frzV_congr (M2 := M2) hs.1 fun b hb => hM b (.inl hb)
    have e2 := frzA_congr (M2 := M2.upds (frzV M v).2) hs.2 fun b hb => upds_agree fun _ => hM b (.inr hb)
    simp only [frzA, e1, e2]

section
variable {P : Program} {T : TypeId → TT} {o : Oper} {ev : Operand → V} {M : Mem} {R : Type}
/-- an operation with one operand, which is frozen first -/
theorem OpOK.frz {p : Operand} {v : V} {u : List (Nat × Blk)} {eff : Eff} (hone : ∀ x ∈ o.op.operands.toList, x = p) (hmem : p ∈ o.op.operands.toList) (hfz : frzV M (ev p) = (v, u)) (hs : v.solid = true)
    (h : OpOK P o (fun _ => v) (M.upds u) eff) : OpOK P o ev M { eff with upd := u ++ eff.upd, fp := u.map (·.1) ++ eff.fp } := by
  refine ⟨fun b hb => ?_, fun M2 hM β Z a w hm hx next Q hn => ?_⟩
  · simp only [List.map_append, List.mem_append] at hb ⊢
    exact hb.imp id fun hb => h.1 b hb
  · have e2 : frzV M2 (ev p) = (v, u) := by
      have := frzV_congr (M := M) (M2 := M2) (v := ev p) (by rw [hfz]; exact hs) (by rw [hfz]; intro b hb; exact hM b (List.mem_append_left _ hb))
      rw [this, hfz]
    obtain ⟨Z1, f, r⟩ := frzV_ok hm (hx p hmem)
    rw [e2] at f r
    exact h.2 (M2.upds u) (fun b hb => upds_agree fun _ => hM b (List.mem_append_right _ hb)) β Z1 a w f.mem (fun x hx' => by rw [hone x hx']; exact r) next Q fun v' w' β' Z' r1 m1 e1 =>
      hn v' w' β' Z' (by rw [upds_append]; exact r1) (by rw [upds_append]; exact m1) (by rw [upds_append]; exact f.ev.trans e1)
theorem buildSliceF_ok (hT : TOK P T) {id : Nat} {t : TypeId} {n : Nat} {parts : Array (Nat × Operand)} (ho : o.op = .buildSlice t n parts) :
    SOp P o ev M (R := R) (buildSliceF T M id t n (parts.toList.map fun p => (p.1, ev p.2))) := by
  intro c r hr
  unfold buildSliceF at hr
  have hops : ∀ p, parts.toList = [p] → o.op.operands.toList = [p.2] := fun p hp => by
    have : parts = #[p] := by cases parts; simp_all
    subst this
    simp [ho, Op.operands]
  cases hL : parts.toList with
  | nil => rw [hL] at hr; exact buildSliceE_ok hT ho c r (by rw [hL]; exact hr)
  | cons p rest =>
    cases rest with
    | cons q rest => rw [hL] at hr; exact buildSliceE_ok hT ho c r (by rw [hL]; exact hr)
    | nil =>
      rw [hL] at hr
      simp only [List.map_cons, List.map_nil] at hr
      cases hfz : frzV M (ev p.2) with
      | mk v u =>
        rw [hfz] at hr
        cases u with
        | nil => exact buildSliceE_ok hT ho c r (by rw [hL]; exact hr)
        | cons u0 us =>
          simp only at hr
          cases hs : v.solid with
          | false => rw [hs] at hr; cases hr
          | true =>
            rw [hs] at hr
            simp only [cond_true] at hr
            have hb := buildSliceE_ok (P := P) (T := T) (o := o) (ev := fun _ => v) (M := M.upds (u0 :: us)) (R := R) hT (id := id) ho _ r (by rw [hL]; exact hr)
            obtain ⟨eff, hok, hc⟩ := hb
            exact ⟨_, OpOK.frz (fun x hx => by rw [hops p hL] at hx; simpa using hx) (by rw [hops p hL]; simp) hfz hs hok, hc⟩
end
end Go.Pv
/-! ### Maps: made, read, written; a pointer that is not nil: the abstract run is right. -/
namespace Go.Pv
section
variable {P : Program} {T : TypeId → TT} {o : Oper} {ev : Operand → V} {M : Mem} {R : Type}
variable {β : Nat → Option Loc} {M2 : Mem} {Z : Nat → Prop} {h : Heap}

/-! ### Entries -/
theorem getL_at {α : Type} {n : Int} {d : α} : ∀ {l : List (Int × α)} {j : Nat} {p : Int × α}, l[j]? = some p → p.1 = n → (∀ i q, i < j → l[i]? = some q → q.1 ≠ n) →
    getL n d l = p.2 ∧ hasL n l = true ∧ ∀ y, putL n y l = l.set j (n, y)
  | [], j, p, h, _, _ => by simp at h
  | a :: r, 0, p, h, hp, _ => by
    simp at h; subst h
    simp only [getL, hasL, putL, decide_eq_true hp, cond_true]
    exact ⟨trivial, trivial, fun y => rfl⟩
  | a :: r, j + 1, p, h, hp, hu => by
    have ha : a.1 ≠ n := hu 0 a (by omega) rfl
    obtain ⟨h1, h2, h3⟩ := getL_at (d := d) (l := r) (j := j) (by simpa using h) hp fun i q hi hq => hu (i + 1) q (by omega) (by simpa using hq)
    simp only [getL, hasL, putL, decide_eq_false ha, cond_false]
    exact ⟨h1, h2, fun y => by rw [h3]; rfl⟩
theorem getL_none {α : Type} {n : Int} {d : α} : ∀ {l : List (Int × α)}, (∀ q ∈ l, q.1 ≠ n) → getL n d l = d ∧ hasL n l = false ∧ ∀ y, putL n y l = l ++ [(n, y)]
  | [], _ => ⟨rfl, rfl, fun _ => rfl⟩
  | a :: r, hu => by
    have ha : a.1 ≠ n := hu a (by simp)
    obtain ⟨h1, h2, h3⟩ := getL_none (d := d) (l := r) fun q hq => hu q (by simp [hq])
    simp only [getL, hasL, putL, decide_eq_false ha, cond_false]
    exact ⟨h1, h2, fun y => by rw [h3]; rfl⟩
theorem MapData.keys {q : IntKind} {τ : Ty} {l : List (Int × τ.den)} {es : Array MapEntry} {clock : Nat} (d : MapData h Z q τ l es clock) : ∀ x ∈ es.toList, MapKept.IsKey (.int q) x.key := fun x hx => by
  obtain ⟨i, hi⟩ := List.getElem?_of_mem hx
  have hi' : es[i]? = some x := by simpa using hi
  have hlt : i < l.length := by rw [← d.2.1]; exact (Array.getElem?_eq_some_iff.1 hi').1
  rw [(d.2.2.2 i x l[i] hi' (List.getElem?_eq_getElem hlt)).1]
  rfl
/-- a key is found where the list has it -/
theorem MapData.find {q : IntKind} {τ : Ty} {l : List (Int × τ.den)} {es : Array MapEntry} {clock : Nat} (d : MapData h Z q τ l es clock) (n : Int) :
    (Instr.findNow (.int q) (.int q n) es.toList 0 = some none ∧ (∀ x ∈ es.toList, x.key ≠ .int q n) ∧ ∀ p ∈ l, p.1 ≠ n) ∨
    ∃ (j : Nat) (e : MapEntry) (p : Int × τ.den), Instr.findNow (.int q) (.int q n) es.toList 0 = some (some (j, e.val)) ∧ es[j]? = some e ∧ e.key = .int q n ∧ l[j]? = some p ∧ p.1 = n ∧ ∀ i r, i < j → l[i]? = some r → r.1 ≠ n := by
  have hk : MapKept.IsKey (.int q) (.int q n) := rfl
  have at_ : ∀ (i : Nat) (e : MapEntry), es[i]? = some e → ∃ p, l[i]? = some p ∧ e.key = .int q p.1 := fun i e hi => by
    have hlt : i < l.length := by rw [← d.2.1]; exact (Array.getElem?_eq_some_iff.1 hi).1
    exact ⟨l[i], List.getElem?_eq_getElem hlt, (d.2.2.2 i e l[i] hi (List.getElem?_eq_getElem hlt)).1⟩
  have ta : ∀ (i : Nat) (p : Int × τ.den), l[i]? = some p → ∃ e, es[i]? = some e ∧ e.key = .int q p.1 := fun i p hi => by
    have hlt : i < es.size := by rw [d.2.1]; exact (List.getElem?_eq_some_iff.1 hi).1
    exact ⟨es[i], Array.getElem?_eq_getElem hlt, (d.2.2.2 i es[i] p (Array.getElem?_eq_getElem hlt) hi).1⟩
  rcases MapKept.findNow_spec hk es.toList 0 d.keys with ⟨h1, h2⟩ | ⟨j, e, h1, h2, h3⟩
  · refine .inl ⟨h1, h2, fun p hp hn => ?_⟩
    obtain ⟨i, hi⟩ := List.getElem?_of_mem hp
    obtain ⟨e, he, hke⟩ := ta i p hi
    exact h2 e (Array.mem_toList_iff.2 (Array.mem_of_getElem? he)) (by rw [hke, hn])
  · have hj : es[j]? = some e := by simpa using h2
    obtain ⟨p, hp, hkp⟩ := at_ j e hj
    rw [h3] at hkp
    have hpn : p.1 = n := by cases hkp; rfl
    refine .inr ⟨j, e, p, by rw [h1]; simp, hj, h3, hp, hpn, fun i r hi hr hrn => ?_⟩
    obtain ⟨e', he', hke'⟩ := ta i r hr
    have hnd := d.1.2.2
    have e1 : (es.toList.map (·.key))[i]? = some (.int q n) := by simp [he', hke', hrn]
    have e2 : (es.toList.map (·.key))[j]? = some (.int q n) := by simp [hj, h3]
    have l1 := (List.getElem?_eq_some_iff.1 e1)
    have l2 := (List.getElem?_eq_some_iff.1 e2)
    obtain ⟨l1, g1⟩ := l1
    obtain ⟨l2, g2⟩ := l2
    exact (List.pairwise_iff_getElem.1 hnd) i j l1 l2 hi (by rw [g1, g2])
theorem RD.head {τ : Ty} {x : τ.den} {v : Value} (hd : RD h Z τ x [v]) (hs : τ.size = 1) : RV β M2 Z h ((enc τ x).headD .dead) v := by
  have hl : RL β M2 Z h (enc τ x) [v] := RL.of_RD hd
  cases he : enc τ x with
  | nil => exact .dead v
  | cons c r =>
    rw [he] at hl
    exact hl.2 0 c v rfl rfl
theorem mapKT_ok (hT : TOK P T) {t e : TypeId} {q : IntKind} (h : mapKT T t = some (q, e)) : ∃ kt, P.underlying t = some (.map kt e) ∧ P.underlying kt = some (.int q) := by
  unfold mapKT at h
  have hk : (T t).kind ≠ .bad := fun hk => by simp [hk] at h
  obtain ⟨_, d, _, a2, a3, _⟩ := hT.info hk
  rw [a3] at h
  cases d <;> simp only [K.of, reduceCtorEq] at h
  rename_i kt et
  have hk2 : (T kt).kind ≠ .bad := fun hk => by simp [hk] at h
  obtain ⟨_, d2, _, b2, b3, _⟩ := hT.info hk2
  rw [b3] at h
  cases d2 <;> simp only [K.of, reduceCtorEq, Option.some.injEq, Prod.mk.injEq] at h
  obtain ⟨rfl, rfl⟩ := h
  exact ⟨kt, a2, b2⟩
/-! ### Made -/
theorem Wd.allocMap (w : World) : Wd w (w.alloc (.map #[] 0)) := ⟨rfl, rfl⟩
theorem new_map (hm : RMem β M2 Z h) {id : Nat} (hid : M2 id = .none) (q : IntKind) (τ : Ty) :
    RMem (updβ β id (.at h.size 0 1 0)) (M2.upd id (.mp q τ [])) Z (h.push (.map #[] 0)) ∧
    Ev β M2 Z h (updβ β id (.at h.size 0 1 0)) (M2.upd id (.mp q τ [])) Z (h.push (.map #[] 0)) ∧
    RV (updβ β id (.at h.size 0 1 0)) (M2.upd id (.mp q τ [])) Z (h.push (.map #[] 0)) (.mp id) (.map (some h.size)) := by
  have hs : h.size ≤ (h.push (.map #[] 0)).size := by simp
  have hh : ∀ cb, cb < h.size → (h.push (.map #[] 0))[cb]? = h[cb]? := fun cb hlt => by rw [Array.getElem?_push]; rw [if_neg (by omega)]
  have hl : ∀ cb base sz top, Loc.at h.size 0 1 0 = .at cb base sz top → h.size ≤ cb := fun cb base sz top e => by cases e; exact Nat.le_refl _
  have ev := new_ev hm hid (.mp q τ []) (.at h.size 0 1 0) hl hs hh
  refine ⟨new_mem hm hid (.mp q τ []) _ hl hs hh ?_, ev, ?_⟩
  · unfold RB
    simp only [upd_same]
    exact ⟨h.size, #[], 0, updβ_same _ _ _, by simp, MapKept.stamped_empty 0, rfl, by simp, fun i e x h1 _ => by simp at h1⟩
  · exact .mp id _ rfl (by rw [upd_same]; simp) fun g0 hg0 _ => ⟨h.size, 0, 1, 0, updβ_same _ _ _, rfl⟩
theorem makeMapE_ok (hT : TOK P T) {id : Nat} {t : TypeId} (ho : o.op = .makeMap t none) : SOp P o ev M (R := R) (makeMapE T M id t) := by
  intro c r hr
  unfold makeMapE at hr
  cases hk : mapKT T t with
  | none => rw [hk] at hr; cases hr
  | some p =>
    obtain ⟨q, e⟩ := p
    rw [hk] at hr
    simp only at hr
    cases hty : (T e).ty with
    | none => rw [hty] at hr; cases hr
    | some τ =>
      rw [hty] at hr
      simp only at hr
      obtain ⟨hid, hc⟩ := newE_inv hr
      refine ⟨_, OpOK.of_run (by simp) fun M2 hM β Z a w hm hx => ?_, hc⟩
      have hid2 : M2 id = .none := by rw [hM id (by simp)]; exact hid
      obtain ⟨n1, n2, n3⟩ := new_map hm hid2 q τ
      refine ⟨_, w.alloc (.map #[] 0), _, Z, .inl ?_, n3, n1, n2, Wd.allocMap _⟩
      simp [execOp, ho, Instr.makeMap, Result.andThen]
/-! ### Read -/
theorem lookupE_ok (hT : TOK P T) {t : TypeId} {m k : Operand} {ok : Bool} (ho : o.op = .lookup t m k ok) : SOp P o ev M (R := R) (lookupE T M t (ev m) (ev k) ok) := by
  intro c r hr
  unfold lookupE at hr
  cases hk : mapKT T t with
  | none => rw [hk] at hr; cases hr
  | some p =>
    obtain ⟨q, e⟩ := p
    rw [hk] at hr
    cases hem : ev m <;> cases hek : ev k <;> simp only [hem, hek, reduceCtorEq] at hr
    rename_i b q' n
    cases hb : M b <;> simp only [hb, reduceCtorEq] at hr
    rename_i q2 τ l
    cases hq : decide (q = q2) && decide (q' = q2) && (T e).pl && Nat.beq τ.size 1 with
    | false => rw [hq] at hr; cases hr
    | true =>
      rw [hq] at hr
      simp only [Bool.and_eq_true, decide_eq_true_eq] at hq
      obtain ⟨⟨⟨rfl, rfl⟩, hpl⟩, hsz⟩ := hq
      have hsz := Nat.eq_of_beq_eq_true hsz
      obtain ⟨i0, z, b1, b2, _, b3⟩ := hT.plz hpl
      rw [b3] at hr
      simp only [cond_true] at hr
      cases hd : dec τ [V.ofValue z] with
      | none => rw [hd] at hr; cases hr
      | some dz =>
        obtain ⟨d, rest⟩ := dz
        rw [hd] at hr
        cases rest with
        | cons _ _ => cases hr
        | nil =>
          simp only at hr
          obtain ⟨kt, c1, c2⟩ := mapKT_ok hT hk
          have hkey : MapKept.IsKey (.int q') (.int q' n) := rfl
          -- what the operation comes to
          have key : ∀ (M2 : Mem), M2 b = M b → ∀ (β : Nat → Option Loc) (Z : Nat → Prop) (a : Act) (w : World), RMem β M2 Z w.heap → RV β M2 Z w.heap (ev m) (a.eval m) → RV β M2 Z w.heap (ev k) (a.eval k) →
              ∃ v, RV β M2 Z w.heap ((enc τ (getL n d l)).headD .dead) v ∧ (Instr.lookup t (a.eval m) (a.eval k) ok).run P w = .ok (if ok then .tuple #[v, .bool (hasL n l)] else v) w := by
            intro M2 hM β Z a w hm h1 h2
            rw [hem] at h1
            rw [hek] at h2
            have hb2 : M2 b = .mp q' τ l := by rw [hM]; exact hb
            obtain ⟨cb, es, clock, e1, _, e2, e3⟩ := h1.mp_inv hm hb2
            have e4 := h2.int_inv
            rw [e1, e4]
            rcases e3.find n with ⟨f1, f2, f3⟩ | ⟨j, en, p, f1, f2, f3, f4, f5, f6⟩
            · obtain ⟨g1, g2, _⟩ := getL_none (d := d) f3
              refine ⟨z, ?_, ?_⟩
              · rw [g1]
                have hz : RL β M2 Z w.heap [V.ofValue z] [z] := RL.cons (RV.ofValue z) RL.nil
                have := (dec_ok hd hz).1
                rw [hsz] at this
                exact this.head hsz
              · cases ok <;> simp [Instr.lookup, run_underlying c1, MapKept.run_getObj_map e2, MapKept.run_checkKey c2 hkey, MapKept.run_findKey c2 f1, run_zeroValue' b1 b2, Result.andThen, g2]
            · obtain ⟨g1, g2, _⟩ := getL_at (d := d) f4 f5 f6
              refine ⟨en.val, ?_, ?_⟩
              · rw [g1]
                exact (e3.2.2.2 j en p f2 f4).2.head hsz
              · cases ok <;> simp [Instr.lookup, run_underlying c1, MapKept.run_getObj_map e2, MapKept.run_checkKey c2 hkey, MapKept.run_findKey c2 f1, Result.andThen, g2]
          cases ok with
          | false =>
            refine ⟨_, OpOK.pure rfl fun M2 hM β Z a w hm hx => ?_, hr⟩
            obtain ⟨v, h1, h2⟩ := key M2 (hM b (by simp)) β Z a w hm (hx m (by simp [ho, Op.operands])) (hx k (by simp [ho, Op.operands]))
            exact ⟨v, by simp [execOp, ho, h2], h1⟩
          | true =>
            refine ⟨_, OpOK.pure rfl fun M2 hM β Z a w hm hx => ?_, hr⟩
            obtain ⟨v, h1, h2⟩ := key M2 (hM b (by simp)) β Z a w hm (hx m (by simp [ho, Op.operands])) (hx k (by simp [ho, Op.operands]))
            refine ⟨.tuple #[v, .bool (hasL n l)], by simp [execOp, ho, h2], ?_⟩
            obtain ⟨g1, g2⟩ := RL.to_arr (vs := #[v, .bool (hasL n l)]) (RL.cons h1 (RL.cons (.bool (hasL n l)) RL.nil))
            exact .tup _ _ g1 g2
/-! ### Written -/
theorem Wd.setMap (w : World) (cb : Nat) (es' : Array MapEntry) (clock' : Nat) : Wd w { w with heap := w.heap.setIfInBounds cb (.map es' clock') } := ⟨rfl, rfl⟩
theorem mapUpdateE_ok (hT : TOK P T) {t : TypeId} {m k x : Operand} (ho : o.op = .mapUpdate t m k x) : SOp P o ev M (R := R) (mapUpdateE T M t (ev m) (ev k) (ev x)) := by
  intro c r hr
  unfold mapUpdateE at hr
  cases hk : mapKT T t with
  | none => rw [hk] at hr; cases hr
  | some p =>
    obtain ⟨q, e⟩ := p
    rw [hk] at hr
    cases hem : ev m <;> cases hek : ev k <;> simp only [hem, hek, reduceCtorEq] at hr
    rename_i b q' n
    cases hb : M b <;> simp only [hb, reduceCtorEq] at hr
    rename_i q2 τ l
    cases hq : decide (q = q2) && decide (q' = q2) with
    | false => rw [hq] at hr; cases hr
    | true =>
      rw [hq] at hr
      simp only [Bool.and_eq_true, decide_eq_true_eq] at hq
      obtain ⟨rfl, rfl⟩ := hq
      simp only [cond_true] at hr
      cases hd : dec τ [ev x] with
      | none => rw [hd] at hr; cases hr
      | some dz =>
        obtain ⟨y, rest⟩ := dz
        rw [hd] at hr
        cases rest with
        | cons _ _ => cases hr
        | nil =>
          simp only at hr
          cases hw : (Lit.int q' n).wf with
          | false => rw [hw] at hr; cases hr
          | true =>
            rw [hw] at hr
            simp only [cond_true] at hr
            obtain ⟨kt, c1, c2⟩ := mapKT_ok hT hk
            have hkey : MapKept.IsKey (.int q') (.int q' n) := rfl
            refine ⟨_, OpOK.of_run (by simp) fun M2 hM β Z a w hm hx => ?_, hr⟩
            have hb2 : M2 b = .mp q' τ l := by rw [hM b (by simp)]; exact hb
            have h1 := hx m (by simp [ho, Op.operands])
            have h2 := hx k (by simp [ho, Op.operands])
            have h3 := hx x (by simp [ho, Op.operands])
            rw [hem] at h1
            rw [hek] at h2
            obtain ⟨cb, es, clock, e1, eb, e2, e3⟩ := h1.mp_inv hm hb2
            have e4 := h2.int_inv
            have hrd : RD w.heap Z τ y [a.eval x] := by
              obtain ⟨d1, d2⟩ := dec_ok hd (RL.cons h3 RL.nil)
              have hl := d2.1
              simp at hl
              rwa [List.take_of_length_le (by simp; omega)] at d1
            -- a new content of the map's block
            have fin : ∀ (es' : Array MapEntry) (clock' : Nat) (l' : List (Int × τ.den)), MapData w.heap Z q' τ l' es' clock' → (Instr.mapUpdate t (a.eval m) (a.eval k) (a.eval x)).run P w = .ok () { w with heap := w.heap.setIfInBounds cb (.map es' clock') } → putL n y l = l' →
                ∃ v' w' β' Z', ((execOp a.eval o).run P w = .ok (.value v') w' ∨ ((execOp a.eval o).run P w = .ok .skip w' ∧ v' = undef)) ∧
                  RV β' (M2.upds [(b, .mp q' τ (putL n y l))]) Z' w'.heap .dead v' ∧ RMem β' (M2.upds [(b, .mp q' τ (putL n y l))]) Z' w'.heap ∧ EvW β M2 Z w β' (M2.upds [(b, .mp q' τ (putL n y l))]) Z' w' := by
              intro es' clock' l' hd' hrun hl'
              obtain ⟨s1, s2⟩ := MapKept.heap_set (w := w) (o' := .map es' clock') e2
              have hblk : Loc.blk? (β b) = some cb := by rw [eb]; rfl
              have hown : (M2 b).own = true := by rw [hb2]; rfl
              have hh : ∀ z, Loc.blk? (β b) ≠ some z → (w.heap.setIfInBounds cb (.map es' clock'))[z]? = w.heap[z]? := fun z hz => s2 z fun e => hz (by rw [hblk, e])
              have hsz : (w.heap.setIfInBounds cb (.map es' clock')).size = w.heap.size := by simp
              have ev := wr_ev (k' := .mp q' τ (putL n y l)) hm hown (.inl hblk) (by rw [hb2]; rfl) (by rw [hb2]; rfl) (by rw [hb2]; rfl) (by rw [hb2]; rfl) hsz hh
              refine ⟨undef, { w with heap := w.heap.setIfInBounds cb (.map es' clock') }, β, Z, .inr ⟨by simp [execOp, ho, hrun], rfl⟩, .dead _, ?_, ev, Wd.setMap w cb es' clock'⟩
              refine wr_mem (k' := .mp q' τ (putL n y l)) hm hown (.inl hblk) (by rw [hb2]; rfl) (by rw [hb2]; rfl) (by rw [hb2]; rfl) (by rw [hb2]; rfl) hsz hh ?_
              unfold RB
              rw [upd_same]
              exact ⟨cb, es', clock', eb, s1, by rw [hl']; exact hd'.mono ev.zkeep (fun _ h => h)⟩
            rw [e1, e4] at fin
            rcases e3.find n with ⟨f1, f2, f3⟩ | ⟨j, en, p, f1, f2, f3, f4, f5, f6⟩
            · obtain ⟨_, _, g3⟩ := getL_none (d := y) f3
              refine fin (es.push { key := .int q' n, val := a.eval x, born := clock }) (clock + 1) _ ⟨MapKept.stamped_push e3.1 f2, by simp [e3.2.1], fun z hz => ?_, fun i e' z hi hz => ?_⟩ ?_ (g3 y)
              · rcases List.mem_append.1 hz with hz | hz
                · exact e3.2.2.1 z hz
                · simp at hz; subst hz; exact hw
              · rw [Array.getElem?_push] at hi
                by_cases hlt : i = es.size
                · rw [if_pos hlt] at hi
                  cases hi
                  rw [hlt, e3.2.1, List.getElem?_append_right (Nat.le_refl _)] at hz
                  simp at hz; subst hz
                  exact ⟨rfl, hrd⟩
                · rw [if_neg hlt] at hi
                  have hlt2 := (Array.getElem?_eq_some_iff.1 hi).1
                  rw [List.getElem?_append_left (by rw [← e3.2.1]; exact hlt2)] at hz
                  exact e3.2.2.2 i e' z hi hz
              · simp [Instr.mapUpdate, run_underlying c1, MapKept.run_getObj_map e2, MapKept.run_checkKey c2 hkey, MapKept.run_findKey c2 f1, MapKept.run_setObj_map _ e2, Result.andThen]
            · obtain ⟨_, _, g3⟩ := getL_at (d := y) f4 f5 f6
              refine fin (es.modify j fun e => { e with key := .int q' n, val := a.eval x }) clock _ ⟨MapKept.stamped_modify e3.1 _ _ (fun _ _ => rfl) (fun e' _ he' => by rw [f2] at he'; cases he'; exact f3.symm), by simp [e3.2.1], fun z hz => ?_, fun i e' z hi hz => ?_⟩ ?_ (g3 y)
              · rcases List.mem_or_eq_of_mem_set hz with hz | rfl
                · exact e3.2.2.1 z hz
                · exact hw
              · rw [Array.getElem?_modify] at hi
                by_cases hij : j = i
                · subst hij
                  rw [if_pos rfl, f2] at hi
                  cases hi
                  rw [List.getElem?_set_self (List.getElem?_eq_some_iff.1 f4).1] at hz
                  cases hz
                  exact ⟨rfl, hrd⟩
                · rw [if_neg hij] at hi
                  rw [List.getElem?_set_ne hij] at hz
                  exact e3.2.2.2 i e' z hi hz
              · simp [Instr.mapUpdate, run_underlying c1, MapKept.run_getObj_map e2, MapKept.run_checkKey c2 hkey, MapKept.run_findKey c2 f1, f2, f3, MapKept.run_keyThatStays hkey, MapKept.run_setObj_map _ e2, Result.andThen]
/-! ### A pointer that is not nil -/
theorem nilCheckE_ok {x : Operand} (ho : o.op = .nilCheck x) : SOp P o ev M (R := R) (nilCheckE M (ev x)) := by
  intro c r hr
  unfold nilCheckE at hr
  cases hv : validP M (ev x) with
  | false => rw [hv] at hr; cases hr
  | true =>
    rw [hv] at hr
    simp only [cond_true] at hr
    refine ⟨_, OpOK.pure rfl fun M2 hM β Z a w hm hx => ?_, hr⟩
    obtain ⟨cb, off, e1, e2⟩ := plus_ok (validP_agree hM hv) (hx x (by simp [ho, Op.operands]))
    refine ⟨_, ?_, hx x (by simp [ho, Op.operands])⟩
    simp [execOp, ho, e1]
end
end Go.Pv
/-! ### Every operation: the abstract run is right. -/
namespace Go.Pv

/-- The function may be called: it has a body. -/
def Callable (P : Program) (f : FuncId) : Prop := ∃ fn, P.funcs[f]? = some fn ∧ fn.body.isSome = true ∧ (fn.name == "runtime.NumGoroutine") = false

/-- A call, from what the abstract values and memory stand for, does what the effect says. -/
def CallOK (P : Program) (f : FuncId) (args : List V) (M : Mem) (eff : Eff) : Prop :=
  (∀ b, b ∈ eff.upd.map (·.1) → b ∈ eff.fp) ∧ Callable P f ∧
  ∀ (M2 : Mem), (∀ b ∈ eff.fp, M2 b = M b) → ∀ (β : Nat → Option Loc) (Z : Nat → Prop) (w : World) (cargs : List Value), RMem β M2 Z w.heap → RL β M2 Z w.heap args cargs →
    Calls P f cargs.toArray w fun e w' => ∃ v β' Z', e = .returned v ∧ RV β' (M2.upds eff.upd) Z' w'.heap eff.val v ∧ RMem β' (M2.upds eff.upd) Z' w'.heap ∧ EvW β M2 Z w β' (M2.upds eff.upd) Z' w'

def CallsOK (P : Program) {R : Type} (callE : FuncId → List V → Mem → Nat → (Eff → Option R) → Option R) : Prop :=
  ∀ f args M id (c : Eff → Option R) r, callE f args M id c = some r → ∃ eff, CallOK P f args M eff ∧ c eff = some r

section
variable {P : Program} {T : TypeId → TT} {o : Oper} {ev : Operand → V} {M : Mem} {R : Type}

theorem call_ok {callE : FuncId → List V → Mem → Nat → (Eff → Option R) → Option R} (hcall : CallsOK P callE) {q : Call} {f : Operand} {g : FuncId} {cap : List V} {id : Nat}
    (ho : o.op = .call q) (hq : q.callee = .value f) (hf : ev f = .fn g cap) : SOp P o ev M (R := R) (callE g (q.args.toList.map ev ++ cap) M id) := by
  intro c r hr
  obtain ⟨eff, ⟨h1, ⟨fn, c1, c2, c3⟩, h2⟩, h3⟩ := hcall _ _ _ _ _ _ hr
  refine ⟨eff, ⟨h1, fun M2 hM β Z a w hm hx next Q hn => ?_⟩, h3⟩
  have pf := hx f (by simp [ho, Op.operands, Call.operands, hq])
  rw [hf] at pf
  obtain ⟨vs, e1, hl, hc⟩ := pf.fn_inv
  have hargs : RL β M2 Z w.heap (q.args.toList.map ev ++ cap) ((q.args.map a.eval).toList ++ vs.toList) := by
    refine RL.append ?_ (RL.of_arr hl hc)
    rw [Array.toList_map]
    refine RL.map_ops fun x hxx => hx x ?_
    simp only [ho, Op.operands, Call.operands, hq, Array.toList_append, List.mem_append]
    exact .inr hxx
  have hcalls := h2 M2 hM β Z w _ hm hargs
  have hrun : (execOp a.eval o).run P w = .ok (.enter g (q.args.map a.eval ++ vs)) w := by
    have hb : fn.body.isNone = false := by cases hbb : fn.body <;> simp_all
    simp only [execOp, ho, resolve, hq, e1, Deferred.ofValue, Sem.run_bind, Sem.run_pure, Result.andThen_ok, invoke, callFunc, run_program, c1, c3, Bool.false_eq_true, if_false, hb, Array.empty_append]
  unfold Oper.wp
  rw [hrun, Oper.upon_enter]
  have he : ((q.args.map a.eval).toList ++ vs.toList).toArray = q.args.map a.eval ++ vs := by simp
  rw [he] at hcalls
  refine hcalls.mono fun e w' ⟨v, β', Z', h4, h5, h6, h7⟩ => ?_
  subst h4
  exact hn _ _ _ _ h5 h6 h7

theorem two_args {zs : Array Operand} {x y : V} (h : zs.toList.map ev = [x, y]) : ∃ a0 a1, zs = #[a0, a1] ∧ ev a0 = x ∧ ev a1 = y := by
  obtain ⟨l⟩ := zs
  cases l with
  | nil => simp at h
  | cons a0 l => cases l with
    | nil => simp at h
    | cons a1 l => cases l with
      | nil => simp at h; exact ⟨a0, a1, rfl, h.1, h.2⟩
      | cons a2 l => simp at h

theorem three_args {zs : Array Operand} {x y z : V} (h : zs.toList.map ev = [x, y, z]) : ∃ a0 a1 a2, zs = #[a0, a1, a2] ∧ ev a0 = x ∧ ev a1 = y ∧ ev a2 = z := by
  obtain ⟨l⟩ := zs
  cases l with
  | nil => simp at h
  | cons a0 l => cases l with
    | nil => simp at h
    | cons a1 l => cases l with
      | nil => simp at h
      | cons a2 l => cases l with
        | nil => simp at h; exact ⟨a0, a1, a2, rfl, h.1, h.2.1, h.2.2⟩
        | cons a3 l => simp at h

theorem builtinE_ok (hT : TOK P T) {q : Call} {b : Builtin} {id : Nat} (ho : o.op = .call q) (hq : q.callee = .builtin b) : SOp P o ev M (R := R) (builtinE T M id b q.argTypes.toList (q.args.toList.map ev)) := by
  intro c r hr
  unfold builtinE at hr
  split at hr
  · rename_i t ts x xs h1 h2
    cases hargs : q.args.toList with
    | nil => simp [hargs] at h2
    | cons a0 zs =>
      simp only [hargs, List.map_cons, List.cons.injEq] at h2
      obtain ⟨rfl, _⟩ := h2
      exact lenE_ok hT ho hq (by simp [hargs]) (by simp [h1]) c r hr
  · rename_i t t2 ts s x xs h1 h2
    cases hargs : q.args.toList with
    | nil => simp [hargs] at h2
    | cons a0 zs =>
      cases zs with
      | nil => simp [hargs] at h2
      | cons a1 zs =>
        simp only [hargs, List.map_cons, List.cons.injEq] at h2
        obtain ⟨rfl, rfl, _⟩ := h2
        split at hr
        · rename_i e2 hk
          exact appendE_ok hT ho hq (by simp [hargs]) (by simp [hargs]) (by simp [h1]) (by simp [h1]) hk c r hr
        · cases hr
  · rename_i t ts d x xs h1 h2
    cases hargs : q.args.toList with
    | nil => simp [hargs] at h2
    | cons a0 zs =>
      cases zs with
      | nil => simp [hargs] at h2
      | cons a1 zs =>
        simp only [hargs, List.map_cons, List.cons.injEq] at h2
        obtain ⟨rfl, rfl, _⟩ := h2
        exact copyE_ok hT ho hq (by simp [hargs]) (by simp [hargs]) (by simp [h1]) c r hr
  · rename_i x y h2
    obtain ⟨a0, a1, ha, rfl, rfl⟩ := two_args h2
    exact minE_ok (isMax := false) ho (by simpa using hq) ha c r hr
  · rename_i x y h2
    obtain ⟨a0, a1, ha, rfl, rfl⟩ := two_args h2
    exact minE_ok (isMax := true) ho (by simpa using hq) ha c r hr
  · rename_i x y z h2
    obtain ⟨a0, a1, a2, ha, rfl, rfl, rfl⟩ := three_args h2
    exact max3E_ok ho hq ha c r hr
  · cases hr

/-- every operation -/
theorem opE_ok (hT : TOK P T) {callE : FuncId → List V → Mem → Nat → (Eff → Option R) → Option R} (hcall : CallsOK P callE) (id : Nat) : SOp P o ev M (R := R) (opE T callE id o.op ev M) := by
  intro c r hr
  cases ho : o.op with
  | move x => rw [ho] at hr; exact move_ok (.inl ho) c r hr
  | assign x => rw [ho] at hr; exact move_ok (.inr ho) c r hr
  | pick q a b =>
    rw [ho] at hr
    simp only [opE] at hr
    cases hq : ev q <;> simp only [hq, reduceCtorEq] at hr
    exact pick_ok ho hq c r hr
  | alloc t => rw [ho] at hr; exact allocE_ok hT ho c r hr
  | box t x => rw [ho] at hr; exact boxE_ok ho c r hr
  | build t ps => rw [ho] at hr; exact buildE_ok hT ho c r hr
  | buildSlice t n ps => rw [ho] at hr; exact buildSliceF_ok hT ho c r hr
  | load t a => rw [ho] at hr; exact loadE_ok hT ho c r hr
  | store t a x => rw [ho] at hr; exact storeE_ok hT ho c r hr
  | binOp op t x y ty => rw [ho] at hr; exact binE_ok hT ho c r hr
  | unOp op t x => rw [ho] at hr; exact unE_ok ho c r hr
  | convert s d x => rw [ho] at hr; exact convE_ok hT ho c r hr
  | makeFunc fn first cap =>
    rw [ho] at hr
    cases fn <;> simp only [opE, reduceCtorEq] at hr
    cases hf : first.isEmpty with
    | false => rw [hf] at hr; cases hr
    | true => rw [hf] at hr; exact makeFunc_ok ho hf c r hr
  | makeSlice t l m => rw [ho] at hr; exact makeSliceE_ok hT ho c r hr
  | slice t x lo hi mx => rw [ho] at hr; exact sliceE_ok hT ho c r hr
  | fieldAddr s x f => rw [ho] at hr; exact fieldAddrE_ok hT ho c r hr
  | field s x f => rw [ho] at hr; exact fieldE_ok hT ho c r hr
  | indexAddr t x i => rw [ho] at hr; exact indexAddrE_ok hT ho c r hr
  | index t x i => rw [ho] at hr; exact indexE_ok hT ho c r hr
  | makeMap t q =>
    rw [ho] at hr
    cases q with
    | none => exact makeMapE_ok hT ho c r hr
    | some q => simp only [opE, reduceCtorEq] at hr
  | mapUpdate t m k x => rw [ho] at hr; exact mapUpdateE_ok hT ho c r hr
  | lookup t x i ok => rw [ho] at hr; exact lookupE_ok hT ho c r hr
  | nilCheck x => rw [ho] at hr; exact nilCheckE_ok ho c r hr
  | extract x i =>
    rw [ho] at hr
    simp only [opE] at hr
    cases hx : ev x <;> simp only [hx, reduceCtorEq] at hr
    rename_i vs
    cases hv : vs[i]? with
    | none => simp [hv] at hr
    | some v => simp only [hv] at hr; exact extract_ok ho hx hv c r hr
  | call q =>
    rw [ho] at hr
    simp only [opE] at hr
    cases hq : q.callee with
    | value f =>
      simp only [hq] at hr
      cases hf : ev f <;> simp only [hf, reduceCtorEq] at hr
      exact call_ok hcall ho hq hf c r hr
    | invoke _ _ => simp [hq] at hr
    | builtin b => simp only [hq] at hr; exact builtinE_ok hT ho hq c r hr
  | _ => rw [ho] at hr; simp only [opE, reduceCtorEq] at hr

end
end Go.Pv
/-! ### Regions in the order of the text. -/
namespace Go.Pv

/-- A frame's state stands for an activation and a world. -/
structure Rel (β : Nat → Option Loc) (M : Mem) (Z : Nat → Prop) (nt : Nat) (ρ : Nat → V) (a : Act) (w : World) : Prop where
  tmps : ∀ t, RV β M Z w.heap (ρ t) (a.tmps.getD t undef)
  size : a.tmps.size = nt
  mem : RMem β M Z w.heap

section
variable {P : Program} {T : TypeId → TT} {R : Type}
variable {β β' : Nat → Option Loc} {M M' : Mem} {Z Z' : Nat → Prop} {nt : Nat} {ρ : Nat → V} {a : Act} {w w' : World}

theorem Rel.eval (r : Rel β M Z nt ρ a w) (x : Operand) : RV β M Z w.heap (evO ρ x) (a.eval x) := by
  cases x with
  | tmp t => exact r.tmps t
  | const v => exact RV.ofValue v
  | global g =>
    simp only [evO]
    split
    · rename_i τ x hg
      obtain ⟨h1, c, T, fz, h2, h3, h4⟩ := r.mem.zlt.gl g τ x hg
      exact .fp τ [x] 0 0 _ g 0 c T fz x rfl h1 h2 rfl h3 h4
    · exact .dead _
  | func f => exact .fn f [] #[] rfl (fun i hi => by simp at hi)

theorem Rel.world (r : Rel β M Z nt ρ a w) (g : Grow β M Z w.heap β' M' Z' w'.heap) (hm : RMem β' M' Z' w'.heap) : Rel β' M' Z' nt ρ a w' :=
  ⟨fun t => (r.tmps t).mono g, r.size, hm⟩

theorem setT_same (ρ : Nat → V) (t : Nat) (v : V) : setT ρ t v t = v := by simp [setT]
theorem setT_ne (ρ : Nat → V) {t x : Nat} (v : V) (h : x ≠ t) : setT ρ t v x = ρ x := by
  have : Nat.beq x t = false := by
    cases e : Nat.beq x t with
    | false => rfl
    | true => exact absurd (Nat.eq_of_beq_eq_true e) h
  simp [setT, this]

theorem Rel.put (r : Rel β M Z nt ρ a w) {d : Nat} (hd : d < nt) {x : V} {v : Value} (hx : RV β M Z w.heap x v) : Rel β M Z nt (setT ρ d x) (a.put (some d) v) w := by
  refine ⟨fun t => ?_, ?_, r.mem⟩
  · simp only [Act.put]
    by_cases e : t = d
    · subst e
      rw [setT_same]
      have : t < a.tmps.size := by rw [r.size]; exact hd
      simpa [Array.getD_eq_getD_getElem?, Array.getElem?_setIfInBounds, this] using hx
    · rw [setT_ne _ _ e]
      have := r.tmps t
      simpa [Array.getD_eq_getD_getElem?, Array.getElem?_setIfInBounds, Ne.symm e] using this
  · simp [Act.put, r.size]

/-- what is known of a temporary may be written down -/
theorem Rel.know (r : Rel β M Z nt ρ a w) {t : Nat} {x : V} (h : ρ t = x) : Rel β M Z nt (setT ρ t x) a w := by
  refine ⟨fun s => ?_, r.size, r.mem⟩
  by_cases e : s = t
  · subst e; rw [setT_same, ← h]; exact r.tmps s
  · rw [setT_ne _ _ e]; exact r.tmps s

theorem Rel.bool (r : Rel β M Z nt ρ a w) {t : Nat} {b : Bool} (h : ρ t = .bool b) : a.tmps[t]? = some (.bool b) := by
  have := r.tmps t
  rw [h] at this
  have e := this.bool_inv
  rw [Array.getD_eq_getD_getElem?] at e
  cases hh : a.tmps[t]? with
  | none => rw [hh] at e; simp [undef] at e
  | some v => rw [hh] at e; simpa using e

theorem guardE_spec {all : List Oper} {g : Option (Nat × Bool)} {yes no : (Nat → V) → Option R} {r : R} (h : guardE all ρ g yes no = some r) :
    ((g = none ∧ yes ρ = some r) ∨ ∃ j want t b, g = some (j, want) ∧ dstOf all j = some t ∧ ρ t = .bool b ∧
      ((b = want ∧ yes (setT ρ t (.bool b)) = some r) ∨ (b ≠ want ∧ no (setT ρ t (.bool b)) = some r))) ∨
    ∃ j want t, g = some (j, want) ∧ dstOf all j = some t ∧ ρ t = .tup [] ∧ no ρ = some r := by
  unfold guardE at h
  cases g with
  | none => exact .inl (.inl ⟨rfl, h⟩)
  | some p =>
    obtain ⟨j, want⟩ := p
    simp only at h
    cases hd : dstOf all j with
    | none => simp [hd] at h
    | some t =>
      simp only [hd] at h
      cases ht : ρ t <;> simp only [ht, reduceCtorEq] at h
      · rename_i b
        refine .inl (.inr ⟨j, want, t, b, rfl, hd, ht, ?_⟩)
        cases b <;> cases want <;> simp only [cond_true, cond_false] at h
        · exact .inl ⟨rfl, h⟩
        · exact .inr ⟨by simp, h⟩
        · exact .inr ⟨by simp, h⟩
        · exact .inl ⟨rfl, h⟩
      · rename_i vs
        cases vs with
        | nil => exact .inr ⟨j, want, t, rfl, hd, ht, h⟩
        | cons _ _ => cases h

theorem undef_RV {h : Heap} : RV β M Z h (.tup []) undef := .tup [] #[] rfl (fun i hi => by simp at hi)

theorem tup_nil {h : Heap} {v : Value} (r : RV β M Z h (.tup []) v) : v = undef := by
  cases r with
  | tup cs vs hl hc =>
    have : vs = #[] := by
      have := hl.symm
      simpa using this
    subst this; rfl

theorem Rel.noBool (r : Rel β M Z nt ρ a w) {t : Nat} (h : ρ t = .tup []) : ∀ b, a.tmps[t]? ≠ some (.bool b) := by
  intro b hb
  have := r.tmps t
  rw [h] at this
  have e := tup_nil this
  rw [Array.getD_eq_getD_getElem?, hb] at e
  simp [undef] at e

theorem dstE_spec {ρ : Nat → V} {d : Option Nat} {v : V} {k : (Nat → V) → Option R} {r : R} (h : dstE nt ρ d v k = some r) :
    (d = none ∧ k ρ = some r) ∨ ∃ t, d = some t ∧ t < nt ∧ k (setT ρ t v) = some r := by
  unfold dstE at h
  cases d with
  | none => exact .inl ⟨rfl, h⟩
  | some t =>
    simp only at h
    cases hb : Nat.blt t nt with
    | false => rw [hb] at h; cases h
    | true => rw [hb] at h; exact .inr ⟨t, rfl, Nat.le_of_ble_eq_true hb, h⟩

theorem put_defers (a : Act) (d : Option Nat) (v : Value) : (a.put d v).defers = a.defers := by cases d <;> rfl

theorem opsE_ok (hT : TOK P T) {callE : FuncId → List V → Mem → Nat → (Eff → Option R) → Option R} (hcall : CallsOK P callE) {all : Array Oper} {c : (Nat → V) → Mem → Nat → Option R} {r : R} :
    ∀ (ops : List Oper) (id : Nat) (ρ : Nat → V) (M : Mem), opsE T callE nt all.toList ops id ρ M c = some r → ∃ ρ' M' nx', c ρ' M' nx' = some r ∧
      ∀ (β : Nat → Option Loc) (Z : Nat → Prop) (a : Act) (w : World) (Q : Exit → Act → World → Prop), Rel β M Z nt ρ a w →
      (∀ β' Z' a' w', Rel β' M' Z' nt ρ' a' w' → EvW β M Z w β' M' Z' w' → a'.defers = a.defers → Q .normal a' w') → wpList P all Q ops a w := by
  intro ops
  induction ops with
  | nil =>
    intro id ρ M h
    exact ⟨ρ, M, id, h, fun β Z a w Q hr hQ => hQ _ _ _ _ hr (EvW.refl _ _ _ _) rfl⟩
  | cons o rest ih =>
    intro id ρ M h
    -- the operation is carried out
    have yes : ∀ ρ, (opE T callE id o.op (evO ρ) M fun e => e.val.force fun v => forceU M e.upd fun M => dstE nt ρ o.dst v fun ρ => forceN (id + 1) fun id => opsE T callE nt all.toList rest id ρ M c) = some r →
        ∃ ρ' M' nx', c ρ' M' nx' = some r ∧ ∀ (β : Nat → Option Loc) (Z : Nat → Prop) (a : Act) (w : World) (Q : Exit → Act → World → Prop), Rel β M Z nt ρ a w →
          (∀ β' Z' a' w', Rel β' M' Z' nt ρ' a' w' → EvW β M Z w β' M' Z' w' → a'.defers = a.defers → Q .normal a' w') → o.wp P a w (wpList P all Q rest) Q := by
      intro ρ h
      obtain ⟨eff, ⟨hfp, hop⟩, hc⟩ := opE_ok hT hcall id _ _ h
      simp only [force_eq, forceU_eq, forceN_eq] at hc
      rcases dstE_spec hc with ⟨hd, hk⟩ | ⟨t, hd, ht, hk⟩
      · obtain ⟨ρ', M', nx', hc', hw⟩ := ih _ _ _ hk
        refine ⟨ρ', M', nx', hc', fun β Z a w Q hr hQ => ?_⟩
        refine hop M (fun _ _ => rfl) β Z a w hr.mem (fun x _ => hr.eval x) _ _ fun v' w' β' Z' h1 h2 h3 => ?_
        rw [hd]
        exact hw β' Z' a w' Q (hr.world h3.toEv.toGrow h2) fun β2 Z2 a' w2 q2 q3 q4 => hQ _ _ _ _ q2 (h3.trans q3) q4
      · obtain ⟨ρ', M', nx', hc', hw⟩ := ih _ _ _ hk
        refine ⟨ρ', M', nx', hc', fun β Z a w Q hr hQ => ?_⟩
        refine hop M (fun _ _ => rfl) β Z a w hr.mem (fun x _ => hr.eval x) _ _ fun v' w' β' Z' h1 h2 h3 => ?_
        rw [hd]
        exact hw β' Z' (a.put (some t) v') w' Q ((hr.world h3.toEv.toGrow h2).put ht h1) fun β2 Z2 a' w2 q2 q3 q4 => hQ _ _ _ _ q2 (h3.trans q3) (by rw [q4, put_defers])
    unfold wpList
    rcases guardE_spec (by simpa only [opsE] using h) with (⟨hg, hy⟩ | ⟨j, want, t, b, hg, hd, ht, hy | hn⟩) | ⟨j, want, t, hg, hd, ht, hn⟩
    · obtain ⟨ρ', M', nx', hc', hw⟩ := yes ρ hy
      refine ⟨ρ', M', nx', hc', fun β Z a w Q hr hQ => ?_⟩
      rw [if_pos (by simp [Region.wanted, hg])]
      exact .inl (hw β Z a w Q hr hQ)
    · obtain ⟨rfl, hy⟩ := hy
      obtain ⟨ρ', M', nx', hc', hw⟩ := yes _ hy
      refine ⟨ρ', M', nx', hc', fun β Z a w Q hr hQ => ?_⟩
      have hd' : ((all[j]?).bind (·.dst)) = some t := by simpa [dstOf] using hd
      have : Region.wanted o (yielded all a.tmps) = true := by simp [Region.wanted, hg, yielded, hd', hr.bool ht]
      rw [if_pos this]
      exact .inl (hw β Z a w Q (hr.know ht) hQ)
    · obtain ⟨hne, hn⟩ := hn
      simp only [forceN_eq] at hn
      have hd' : ((all[j]?).bind (·.dst)) = some t := by simpa [dstOf] using hd
      have hW : ∀ (a : Act), a.tmps[t]? = some (.bool b) → Region.wanted o (yielded all a.tmps) = false := fun a ha => by simp [Region.wanted, hg, yielded, hd', ha, hne]
      rcases dstE_spec hn with ⟨hdd, hk⟩ | ⟨t', hdd, ht', hk⟩
      · obtain ⟨ρ', M', nx', hc', hw⟩ := ih _ _ _ hk
        refine ⟨ρ', M', nx', hc', fun β Z a w Q hr hQ => ?_⟩
        rw [if_neg (by rw [hW a (hr.bool ht)]; simp), hdd]
        exact hw β Z a w Q (hr.know ht) hQ
      · obtain ⟨ρ', M', nx', hc', hw⟩ := ih _ _ _ hk
        refine ⟨ρ', M', nx', hc', fun β Z a w Q hr hQ => ?_⟩
        rw [if_neg (by rw [hW a (hr.bool ht)]; simp), hdd]
        exact hw β Z _ w Q ((hr.know ht).put ht' undef_RV) fun β2 Z2 a' w2 q2 q3 q4 => hQ _ _ _ _ q2 q3 (by rw [q4, put_defers])
    · simp only [forceN_eq] at hn
      have hd' : ((all[j]?).bind (·.dst)) = some t := by simpa [dstOf] using hd
      have hW : ∀ (a : Act), (∀ b, a.tmps[t]? ≠ some (.bool b)) → Region.wanted o (yielded all a.tmps) = false := fun a ha => by
        simp only [Region.wanted, hg, yielded, hd', Option.bind_some]
        cases want <;> rfl
      rcases dstE_spec hn with ⟨hdd, hk⟩ | ⟨t', hdd, ht', hk⟩
      · obtain ⟨ρ', M', nx', hc', hw⟩ := ih _ _ _ hk
        refine ⟨ρ', M', nx', hc', fun β Z a w Q hr hQ => ?_⟩
        rw [if_neg (by rw [hW a (hr.noBool ht)]; simp), hdd]
        exact hw β Z a w Q hr hQ
      · obtain ⟨ρ', M', nx', hc', hw⟩ := ih _ _ _ hk
        refine ⟨ρ', M', nx', hc', fun β Z a w Q hr hQ => ?_⟩
        rw [if_neg (by rw [hW a (hr.noBool ht)]; simp), hdd]
        exact hw β Z _ w Q (hr.put ht' undef_RV) fun β2 Z2 a' w2 q2 q3 q4 => hQ _ _ _ _ q2 q3 (by rw [q4, put_defers])

end
end Go.Pv
/-! ### Regions whose order is drawn: if no two operations that may change places touch the same, the order of the text serves all. -/
namespace Go.Pv

/-- an operation with what it has done -/
structure Do where
  o : Oper
  ran : Bool
  eff : Eff

def Do.val (d : Do) : V := if d.ran then d.eff.val else .tup []
def Do.upd (d : Do) : List (Nat × Blk) := if d.ran then d.eff.upd else []
def Do.wr (d : Do) : List Nat := d.upd.map (·.1)
def Do.fp (d : Do) : List Nat := if d.ran then d.eff.fp else []

def putT (ρ : Nat → V) (d : Option Nat) (v : V) : Nat → V :=
  match d with
  | some t => setT ρ t v
  | none => ρ

/-- the frame after those operations (from number k on) that are done -/
def foldT (D : Nat → Bool) : Nat → List Do → (Nat → V) → (Nat → V)
  | _, [], ρ => ρ
  | k, d :: r, ρ => foldT D (k + 1) r (if D k then putT ρ d.o.dst d.val else ρ)

def foldM (D : Nat → Bool) : Nat → List Do → Mem → Mem
  | _, [], M => M
  | k, d :: r, M => foldM D (k + 1) r (if D k then M.upds d.upd else M)

theorem putT_ne {ρ : Nat → V} {d : Option Nat} {v : V} {t : Nat} (h : d ≠ some t) : putT ρ d v t = ρ t := by
  cases d with
  | none => rfl
  | some x => exact setT_ne _ _ fun e => h (by rw [e])

/-- two sets of done operations that part only in such as do not write t -/
theorem foldT_agree {t : Nat} {D D' : Nat → Bool} : ∀ (ds : List Do) (k : Nat) (ρ ρ' : Nat → V), ρ t = ρ' t →
    (∀ i d, ds[i]? = some d → D (k + i) ≠ D' (k + i) → d.o.dst ≠ some t) → foldT D k ds ρ t = foldT D' k ds ρ' t
  | [], _, _, _, h, _ => h
  | d :: r, k, ρ, ρ', h, hd => by
    simp only [foldT]
    refine foldT_agree r (k + 1) _ _ ?_ fun i d' hi hne => hd (i + 1) d' (by simpa using hi) (by rw [show k + (i + 1) = k + 1 + i from by omega]; exact hne)
    by_cases e : D k = D' k
    · rw [e]
      cases D' k
      · exact h
      · simp only [if_true]
        by_cases e2 : d.o.dst = some t
        · rw [e2]; simp [putT, setT_same]
        · rw [putT_ne e2, putT_ne e2]; exact h
    · have := hd 0 d (by simp) (by simpa using e)
      cases h1 : D k <;> cases h2 : D' k <;> simp only [if_true, Bool.false_eq_true, if_false]
      · exact h
      · rw [putT_ne this]; exact h
      · rw [putT_ne this]; exact h
      · rw [putT_ne this, putT_ne this]; exact h

theorem foldM_agree {b : Nat} {D D' : Nat → Bool} : ∀ (ds : List Do) (k : Nat) (M M' : Mem), M b = M' b →
    (∀ i d, ds[i]? = some d → D (k + i) ≠ D' (k + i) → b ∉ d.wr) → foldM D k ds M b = foldM D' k ds M' b
  | [], _, _, _, h, _ => h
  | d :: r, k, M, M', h, hd => by
    simp only [foldM]
    refine foldM_agree r (k + 1) _ _ ?_ fun i d' hi hne => hd (i + 1) d' (by simpa using hi) (by rw [show k + (i + 1) = k + 1 + i from by omega]; exact hne)
    by_cases e : D k = D' k
    · rw [e]
      cases D' k
      · exact h
      · simp only [if_true]; exact upds_congr h
    · have := hd 0 d (by simp) (by simpa using e)
      cases h1 : D k <;> cases h2 : D' k <;> simp only [if_true, Bool.false_eq_true, if_false]
      · exact h
      · rw [upds_not this]; exact h
      · rw [upds_not this]; exact h
      · rw [upds_not this, upds_not this]; exact h

/-- operation i done last -/
theorem foldT_last {D : Nat → Bool} : ∀ (ds : List Do) (k i : Nat) (d : Do) (ρ : Nat → V), ds[i]? = some d → D (k + i) = false →
    (∀ j d', ds[j]? = some d' → i < j → D (k + j) = true → ∀ t, d.o.dst = some t → d'.o.dst ≠ some t) →
    foldT (fun x => x == k + i || D x) k ds ρ = putT (foldT D k ds ρ) d.o.dst d.val := by
  intro ds k i d ρ hi hD hj
  funext t
  by_cases e : d.o.dst = some t
  · rw [e]
    simp only [putT, setT_same]
    -- behind i nobody writes t
    have key : ∀ (ds : List Do) (k i : Nat) (ρ : Nat → V), ds[i]? = some d → (∀ j d', ds[j]? = some d' → i < j → D (k + j) = true → d'.o.dst ≠ some t) →
        foldT (fun x => x == k + i || D x) k ds ρ t = d.val := by
      intro ds
      induction ds with
      | nil => intro k i ρ h; simp at h
      | cons d0 r ih =>
        intro k i ρ h hlt
        cases i with
        | zero =>
          simp at h; subst h
          simp only [foldT, Nat.add_zero, BEq.rfl, Bool.true_or, if_true]
          have h2 : foldT (fun x => x == k || D x) (k + 1) r (putT ρ d0.o.dst d0.val) t = foldT (fun _ => false) (k + 1) r (putT ρ d0.o.dst d0.val) t := by
            refine foldT_agree r (k + 1) _ _ rfl fun j d' hj' hne => ?_
            refine hlt (j + 1) d' (by simpa using hj') (by omega) ?_
            have : (k + 1 + j == k) = false := by simp; omega
            rw [this] at hne
            simp only [Bool.false_or, ne_eq, Bool.not_eq_false] at hne
            rw [show k + (j + 1) = k + 1 + j from by omega]; exact hne
          rw [h2]
          have h3 : ∀ (r : List Do) (k : Nat) (ρ : Nat → V), foldT (fun _ => false) k r ρ = ρ := by
            intro r; induction r with
            | nil => intro _ _; rfl
            | cons _ _ ih => intro k ρ; simp only [foldT, Bool.false_eq_true, if_false]; exact ih _ _
          rw [h3, e]; simp [putT, setT_same]
        | succ i =>
          simp at h
          simp only [foldT]
          rw [show k + (i + 1) = k + 1 + i from by omega]
          exact ih (k + 1) i _ h fun j d' hj' hl hDj => hlt (j + 1) d' (by simpa using hj') (by omega) (by rw [show k + (j + 1) = k + 1 + j from by omega]; exact hDj)
    exact key ds k i ρ hi fun j d' h1 h2 h3 => hj j d' h1 h2 h3 t e
  · rw [putT_ne e]
    refine foldT_agree ds k ρ ρ rfl fun j d' h1 hne => ?_
    by_cases hji : j = i
    · subst hji; rw [hi] at h1; cases h1; exact e
    · exfalso; apply hne
      have : (k + j == k + i) = false := by simp; omega
      simp [this]

theorem foldM_last {D : Nat → Bool} : ∀ (ds : List Do) (k i : Nat) (d : Do) (M : Mem), ds[i]? = some d → D (k + i) = false →
    (∀ j d', ds[j]? = some d' → i < j → D (k + j) = true → ∀ b, b ∈ d.wr → b ∉ d'.wr) →
    foldM (fun x => x == k + i || D x) k ds M = (foldM D k ds M).upds d.upd := by
  intro ds k i d M hi hD hj
  funext b
  by_cases e : b ∈ d.wr
  · have key : ∀ (ds : List Do) (k i : Nat) (M N : Mem), ds[i]? = some d → (∀ j d', ds[j]? = some d' → i < j → D (k + j) = true → b ∉ d'.wr) →
        foldM (fun x => x == k + i || D x) k ds M b = (N.upds d.upd) b := by
      intro ds
      induction ds with
      | nil => intro k i M N h; simp at h
      | cons d0 r ih =>
        intro k i M N h hlt
        cases i with
        | zero =>
          simp at h; subst h
          simp only [foldM, Nat.add_zero, BEq.rfl, Bool.true_or, if_true]
          have h2 : foldM (fun x => x == k || D x) (k + 1) r (M.upds d0.upd) b = foldM (fun _ => false) (k + 1) r (M.upds d0.upd) b := by
            refine foldM_agree r (k + 1) _ _ rfl fun j d' hj' hne => ?_
            refine hlt (j + 1) d' (by simpa using hj') (by omega) ?_
            have : (k + 1 + j == k) = false := by simp; omega
            rw [this] at hne
            simp only [Bool.false_or, ne_eq, Bool.not_eq_false] at hne
            rw [show k + (j + 1) = k + 1 + j from by omega]; exact hne
          rw [h2]
          have h3 : ∀ (r : List Do) (k : Nat) (M : Mem), foldM (fun _ => false) k r M = M := by
            intro r; induction r with
            | nil => intro _ _; rfl
            | cons _ _ ih => intro k ρ; simp only [foldM, Bool.false_eq_true, if_false]; exact ih _ _
          rw [h3]; exact upds_in e
        | succ i =>
          simp at h
          simp only [foldM]
          rw [show k + (i + 1) = k + 1 + i from by omega]
          exact ih (k + 1) i _ N h fun j d' hj' hl hDj => hlt (j + 1) d' (by simpa using hj') (by omega) (by rw [show k + (j + 1) = k + 1 + j from by omega]; exact hDj)
    exact key ds k i M _ hi fun j d' h1 h2 h3 => hj j d' h1 h2 h3 b e
  · rw [upds_not e]
    refine foldM_agree ds k M M rfl fun j d' h1 hne => ?_
    by_cases hji : j = i
    · subst hji; rw [hi] at h1; cases h1; exact e
    · exfalso; apply hne
      have : (k + j == k + i) = false := by simp; omega
      simp [this]

theorem hasN_iff {t : Nat} {l : List Nat} : hasN t l = true ↔ t ∈ l := by
  induction l with
  | nil => simp [hasN]
  | cons x r ih =>
    simp only [hasN, Bool.or_eq_true, ih, List.mem_cons]
    constructor
    · rintro (h | h)
      · exact .inl (Nat.eq_of_beq_eq_true h)
      · exact .inr h
    · rintro (h | h)
      · subst h; exact .inl (Nat.beq_refl t)
      · exact .inr h

theorem hasN_not {t : Nat} {l : List Nat} : hasN t l = false ↔ t ∉ l := by
  constructor
  · intro h hin; rw [hasN_iff.2 hin] at h; cases h
  · intro h
    cases hh : hasN t l with
    | false => rfl
    | true => exact absurd (hasN_iff.1 hh) h

theorem disj_iff {a b : List Nat} : disj a b = true ↔ ∀ x ∈ a, x ∉ b := by
  induction a with
  | nil => simp [disj]
  | cons x r ih =>
    rw [disj, Bool.and_eq_true, Bool.not_eq_true', ih, hasN_not]
    constructor
    · rintro ⟨h1, h2⟩ y hy
      rcases List.mem_cons.1 hy with e | e
      · rw [e]; exact h1
      · exact h2 y e
    · intro h
      exact ⟨h x (List.mem_cons_self ..), fun y hy => h y (List.mem_cons_of_mem _ hy)⟩

/-- two operations that may change places -/
structure Free (p q : Do) (rp rq : List Nat) : Prop where
  pq : ∀ t, p.o.dst = some t → t ∉ rq
  qp : ∀ t, q.o.dst = some t → t ∉ rp
  dd : ∀ t, p.o.dst = some t → q.o.dst ≠ some t
  wp : ∀ b, b ∈ p.wr → b ∉ q.fp
  wq : ∀ b, b ∈ q.wr → b ∉ p.fp

def Do.rc (all : List Oper) (d : Do) : Rc := ⟨d.o, readsOf all d.o, d.wr, d.fp⟩

theorem apart_free {all : List Oper} {p q : Do} (h : apartR (p.rc all) (q.rc all) = true) : Free p q (readsOf all p.o) (readsOf all q.o) := by
  simp only [apartR, Do.rc, Bool.and_eq_true, Bool.not_eq_true'] at h
  obtain ⟨⟨⟨⟨h1, h2⟩, h3⟩, h4⟩, h5⟩ := h
  refine ⟨fun t e hin => ?_, fun t e hin => ?_, fun t e e2 => ?_, disj_iff.1 h4, disj_iff.1 h5⟩
  · rw [e] at h1; simp only [dstIn] at h1; rw [hasN_iff.2 hin] at h1; cases h1
  · rw [e] at h2; simp only [dstIn] at h2; rw [hasN_iff.2 hin] at h2; cases h2
  · rw [e, e2] at h3; simp only [dstIn, Option.toList] at h3; rw [hasN_iff.2 (by simp)] at h3; cases h3

theorem indepWith_spec {A : List (List Nat)} {i : Nat} {p : Rc} : ∀ (k : Nat) (rs : List Rc), indepWith A i p k rs = true → ∀ j q, rs[j]? = some q → i ∈ A.getD (k + j) [] ∨ apartR p q = true
  | _, [], _, j, q, hq => by simp at hq
  | k, q0 :: rs, h, j, q, hq => by
    simp only [indepWith, Bool.and_eq_true, Bool.or_eq_true, hasN_iff] at h
    cases j with
    | zero => simp at hq; subst hq; exact h.1
    | succ j =>
      simp at hq
      have := indepWith_spec (k + 1) rs h.2 j q hq
      rw [show k + (j + 1) = k + 1 + j from by omega]; exact this

theorem indepFrom_spec {A : List (List Nat)} : ∀ (k : Nat) (rs : List Rc), indepFrom A k rs = true → ∀ i j p q, rs[i]? = some p → rs[j]? = some q → i < j → (k + i) ∈ A.getD (k + j) [] ∨ apartR p q = true
  | _, [], _, i, j, p, q, hp, _, _ => by simp at hp
  | k, r0 :: rs, h, i, j, p, q, hp, hq, hlt => by
    simp only [indepFrom, Bool.and_eq_true] at h
    cases j with
    | zero => omega
    | succ j =>
      simp at hq
      cases i with
      | zero =>
        simp at hp; subst hp
        have := indepWith_spec (k + 1) rs h.1 j q hq
        rw [show k + (j + 1) = k + 1 + j from by omega]; exact this
      | succ i =>
        simp at hp
        have := indepFrom_spec (k + 1) rs h.2 i j p q hp hq (by omega)
        rw [show k + (i + 1) = k + 1 + i from by omega, show k + (j + 1) = k + 1 + j from by omega]; exact this

/-- operation j waits for i, through others too -/
inductive TW (all : List Oper) : Nat → Nat → Prop
  | one {j i : Nat} {o : Oper} (h : all[j]? = some o) (hd : i ∈ dirs o) : TW all j i
  | more {j m i : Nat} {o : Oper} (h : all[j]? = some o) (hd : m ∈ dirs o) (ht : TW all m i) : TW all j i

theorem ancAdd_spec {acc : List (List Nat)} {i : Nat} : ∀ (l s : List Nat), i ∈ ancAdd acc l s → i ∈ s ∨ i ∈ l ∨ ∃ e ∈ l, i ∈ acc.getD e []
  | [], s, h => .inl h
  | e :: r, s, h => by
    simp only [ancAdd] at h
    rcases ancAdd_spec r _ h with h | h | ⟨e', h1, h2⟩
    · cases hb : hasN e s with
      | true => rw [hb] at h; exact .inl h
      | false =>
        rw [hb] at h
        simp only [cond_false, List.mem_cons, List.mem_append] at h
        rcases h with h | h | h
        · exact .inr (.inl (by simp [h]))
        · exact .inr (.inr ⟨e, by simp, h⟩)
        · exact .inl h
    · exact .inr (.inl (by simp [h]))
    · exact .inr (.inr ⟨e', by simp [h1], h2⟩)

theorem ancs_spec {all : List Oper} : ∀ (os : List Oper) (acc : List (List Nat)), all = all.take acc.length ++ os → (∀ j i, i ∈ acc.getD j [] → TW all j i) → ∀ j i, i ∈ (ancs os acc).getD j [] → TW all j i
  | [], acc, _, h, j, i, hi => h j i hi
  | o :: r, acc, he, h, j, i, hi => by
    simp only [ancs] at hi
    have hlen : acc.length ≤ all.length := by
      have := congrArg List.length he
      simp at this; omega
    have ho : all[acc.length]? = some o := by
      rw [he, List.getElem?_append_right (by simp; omega)]
      simp [Nat.min_eq_left hlen]
    refine ancs_spec r (acc ++ [ancAdd acc (dirs o) []]) ?_ ?_ j i hi
    · simp only [List.length_append, List.length_cons, List.length_nil]
      rw [List.take_add_one, ho]
      simpa using he
    · intro j i hi
      by_cases hj : j < acc.length
      · rw [List.getD_eq_getElem?_getD, List.getElem?_append_left hj, ← List.getD_eq_getElem?_getD] at hi; exact h j i hi
      · by_cases hj2 : j = acc.length
        · subst hj2
          rw [List.getD_eq_getElem?_getD, List.getElem?_append_right (Nat.le_refl _)] at hi
          simp at hi
          rcases ancAdd_spec _ _ hi with h1 | h1 | ⟨e, h1, h2⟩
          · cases h1
          · exact .one ho h1
          · exact .more ho h1 (h e i h2)
        · rw [List.getD_eq_getElem?_getD, List.getElem?_eq_none (by simp; omega)] at hi
          simp at hi

theorem edgesOk_spec : ∀ (k : Nat) (os : List Oper), edgesOk k os = true → ∀ j o, os[j]? = some o → ∀ e ∈ o.after, Region.binds .any e = true → e.on < k + j
  | _, [], _, j, o, hj, _, _, _ => by simp at hj
  | k, o0 :: os, h, j, o, hj, e, he, hb => by
    simp only [edgesOk, Bool.and_eq_true, List.all_eq_true, Bool.or_eq_true, Bool.not_eq_true'] at h
    cases j with
    | zero =>
      simp at hj; subst hj
      rcases h.1 e (by simpa using he) with h1 | h1
      · rw [hb] at h1; cases h1
      · exact Nat.le_of_ble_eq_true h1
    | succ j =>
      simp at hj
      have := edgesOk_spec (k + 1) os h.2 j o hj e he hb
      omega

theorem mem_dirs {o : Oper} {i : Nat} : i ∈ dirs o ↔ ∃ e ∈ o.after, Region.binds .any e = true ∧ e.on = i := by
  simp only [dirs, List.mem_map, List.mem_filter, Array.mem_toList_iff]
  constructor
  · rintro ⟨e, ⟨h1, h2⟩, h3⟩; exact ⟨e, h1, h2, h3⟩
  · rintro ⟨e, h1, h2, h3⟩; exact ⟨e, ⟨h1, h2⟩, h3⟩

/-! ### The order of the text, taken apart -/
def runT : List Do → (Nat → V) → (Nat → V)
  | [], ρ => ρ
  | d :: r, ρ => runT r (putT ρ d.o.dst d.val)

def runM : List Do → Mem → Mem
  | [], M => M
  | d :: r, M => runM r (M.upds d.upd)

theorem foldT_all {D : Nat → Bool} : ∀ (ds : List Do) (k : Nat) (ρ : Nat → V), (∀ i, i < ds.length → D (k + i) = true) → foldT D k ds ρ = runT ds ρ
  | [], _, _, _ => rfl
  | d :: r, k, ρ, h => by
    have := h 0 (by simp)
    simp only [Nat.add_zero] at this
    simp only [foldT, runT, this, if_true]
    exact foldT_all r (k + 1) _ fun i hi => by rw [show k + 1 + i = k + (i + 1) from by omega]; exact h (i + 1) (by simpa using hi)

theorem foldM_all {D : Nat → Bool} : ∀ (ds : List Do) (k : Nat) (M : Mem), (∀ i, i < ds.length → D (k + i) = true) → foldM D k ds M = runM ds M
  | [], _, _, _ => rfl
  | d :: r, k, M, h => by
    have := h 0 (by simp)
    simp only [Nat.add_zero] at this
    simp only [foldM, runM, this, if_true]
    exact foldM_all r (k + 1) _ fun i hi => by rw [show k + 1 + i = k + (i + 1) from by omega]; exact h (i + 1) (by simpa using hi)

def gOk (all : List Oper) (ρ : Nat → V) (g : Option (Nat × Bool)) (ran : Bool) : Prop :=
  ((g = none ∧ ran = true) ∨ ∃ j want t b, g = some (j, want) ∧ dstOf all j = some t ∧ ρ t = .bool b ∧ ran = (b == want)) ∨ ∃ j want t, g = some (j, want) ∧ dstOf all j = some t ∧ ρ t = .tup [] ∧ ran = false

def DoOK (P : Program) (nt : Nat) (all : List Oper) (ρ : Nat → V) (M : Mem) (d : Do) : Prop :=
  gOk all ρ d.o.guard d.ran ∧ (d.ran = true → OpOK P d.o (evO ρ) M d.eff) ∧ ∀ t, d.o.dst = some t → t < nt

def Seq (P : Program) (nt : Nat) (all : List Oper) : List Do → (Nat → V) → Mem → Prop
  | [], _, _ => True
  | d :: r, ρ, M => DoOK P nt all ρ M d ∧ Seq P nt all r (putT ρ d.o.dst d.val) (M.upds d.upd)

theorem Seq.at {P : Program} {nt : Nat} {all : List Oper} : ∀ (ds : List Do) (k : Nat) (ρ : Nat → V) (M : Mem), Seq P nt all ds ρ M → ∀ i d, ds[i]? = some d →
    DoOK P nt all (foldT (fun x => decide (x < k + i)) k ds ρ) (foldM (fun x => decide (x < k + i)) k ds M) d
  | [], _, _, _, _, i, d, h => by simp at h
  | d0 :: r, k, ρ, M, hs, i, d, h => by
    cases i with
    | zero =>
      simp at h; subst h
      have e1 : ∀ (r : List Do) (k' : Nat) (ρ : Nat → V), k ≤ k' → foldT (fun x => decide (x < k)) k' r ρ = ρ := by
        intro r; induction r with
        | nil => intro _ _ _; rfl
        | cons _ _ ih => intro k' ρ hk; simp only [foldT, show ¬ k' < k from by omega, decide_false, Bool.false_eq_true, if_false]; exact ih _ _ (by omega)
      have e2 : ∀ (r : List Do) (k' : Nat) (M : Mem), k ≤ k' → foldM (fun x => decide (x < k)) k' r M = M := by
        intro r; induction r with
        | nil => intro _ _ _; rfl
        | cons _ _ ih => intro k' ρ hk; simp only [foldM, show ¬ k' < k from by omega, decide_false, Bool.false_eq_true, if_false]; exact ih _ _ (by omega)
      rw [Nat.add_zero, e1 _ _ _ (Nat.le_refl k), e2 _ _ _ (Nat.le_refl k)]
      exact hs.1
    | succ i =>
      simp at h
      simp only [foldT, foldM]
      have : decide (k < k + (i + 1)) = true := by simp
      simp only [this, if_true]
      rw [show k + (i + 1) = k + 1 + i from by omega]
      exact Seq.at r (k + 1) _ _ hs.2 i d h

section
variable {P : Program} {T : TypeId → TT} {R : Type} {nt : Nat}

theorem setT_know {ρ : Nat → V} {t : Nat} {x : V} (h : ρ t = x) : setT ρ t x = ρ := by
  funext s
  by_cases e : s = t
  · subst e; rw [setT_same, h]
  · rw [setT_ne _ _ e]

theorem opsD_seq (hT : TOK P T) {callE : FuncId → List V → Mem → Nat → (Eff → Option R) → Option R} (hcall : CallsOK P callE) {all : List Oper} {c : (Nat → V) → Mem → Nat → Option R} {r : R} :
    ∀ (ops : List Oper) (id : Nat) (ρ : Nat → V) (M : Mem) (rs : List Rc), opsD T callE nt all ops id ρ M rs c = some r →
      ∃ ds id', Seq P nt all ds ρ M ∧ ds.map (·.o) = ops ∧ c (runT ds ρ) (runM ds M) id' = some r ∧ indepFrom (ancs all []) 0 (rs ++ ds.map (Do.rc all)) = true ∧ edgesOk 0 all = true := by
  intro ops
  induction ops with
  | nil =>
    intro id ρ M rs h
    simp only [opsD] at h
    cases hb : indepFrom (ancs all []) 0 rs && edgesOk 0 all with
    | false => rw [hb] at h; cases h
    | true =>
      rw [hb] at h
      rw [Bool.and_eq_true] at hb
      exact ⟨[], id, trivial, rfl, h, by simpa using hb.1, hb.2⟩
  | cons o rest ih =>
    intro id ρ M rs h
    have yes : gOk all ρ o.guard true → (opE T callE id o.op (evO ρ) M fun e => e.val.force fun v => forceU M e.upd fun M => dstE nt ρ o.dst v fun ρ => forceN (id + 1) fun id => opsD T callE nt all rest id ρ M (rs ++ [⟨o, readsOf all o, e.upd.map (·.1), e.fp⟩]) c) = some r →
        ∃ ds id', Seq P nt all ds ρ M ∧ ds.map (·.o) = o :: rest ∧ c (runT ds ρ) (runM ds M) id' = some r ∧ indepFrom (ancs all []) 0 (rs ++ ds.map (Do.rc all)) = true ∧ edgesOk 0 all = true := by
      intro hg h
      obtain ⟨eff, hop, hc⟩ := opE_ok hT hcall id _ _ h
      simp only [force_eq, forceU_eq, forceN_eq] at hc
      have fin : ∀ (hd : ∀ t, o.dst = some t → t < nt), opsD T callE nt all rest (id + 1) (putT ρ o.dst eff.val) (M.upds eff.upd) (rs ++ [⟨o, readsOf all o, eff.upd.map (·.1), eff.fp⟩]) c = some r →
          ∃ ds id', Seq P nt all ds ρ M ∧ ds.map (·.o) = o :: rest ∧ c (runT ds ρ) (runM ds M) id' = some r ∧ indepFrom (ancs all []) 0 (rs ++ ds.map (Do.rc all)) = true ∧ edgesOk 0 all = true := fun hd hk => by
        obtain ⟨ds, id', h1, h2, h3, h4, h5⟩ := ih _ _ _ _ hk
        refine ⟨⟨o, true, eff⟩ :: ds, id', ⟨⟨hg, fun _ => hop, hd⟩, h1⟩, by simp [h2], h3, ?_, h5⟩
        simpa [Do.rc, Do.wr, Do.upd, Do.fp] using h4
      rcases dstE_spec hc with ⟨hd, hk⟩ | ⟨t, hd, ht, hk⟩
      · exact fin (fun t h => by rw [hd] at h; cases h) (by rw [hd]; exact hk)
      · exact fin (fun t' h => by rw [hd] at h; cases h; exact ht) (by rw [hd]; exact hk)
    have no : gOk all ρ o.guard false → (dstE nt ρ o.dst (.tup []) fun ρ => forceN (id + 1) fun id => opsD T callE nt all rest id ρ M (rs ++ [⟨o, readsOf all o, [], []⟩]) c) = some r →
        ∃ ds id', Seq P nt all ds ρ M ∧ ds.map (·.o) = o :: rest ∧ c (runT ds ρ) (runM ds M) id' = some r ∧ indepFrom (ancs all []) 0 (rs ++ ds.map (Do.rc all)) = true ∧ edgesOk 0 all = true := by
      intro hg' hn
      simp only [forceN_eq] at hn
      have fin : ∀ (hd : ∀ t, o.dst = some t → t < nt), opsD T callE nt all rest (id + 1) (putT ρ o.dst (.tup [])) M (rs ++ [⟨o, readsOf all o, [], []⟩]) c = some r →
          ∃ ds id', Seq P nt all ds ρ M ∧ ds.map (·.o) = o :: rest ∧ c (runT ds ρ) (runM ds M) id' = some r ∧ indepFrom (ancs all []) 0 (rs ++ ds.map (Do.rc all)) = true ∧ edgesOk 0 all = true := fun hd hk => by
        obtain ⟨ds, id', h1, h2, h3, h4, h5⟩ := ih _ _ _ _ hk
        refine ⟨⟨o, false, ⟨.dead, [], []⟩⟩ :: ds, id', ⟨⟨hg', fun h => by simp at h, hd⟩, h1⟩, by simp [h2], h3, ?_, h5⟩
        simpa [Do.rc, Do.wr, Do.upd, Do.fp] using h4
      rcases dstE_spec hn with ⟨hd, hk⟩ | ⟨t, hd, ht, hk⟩
      · exact fin (fun t h => by rw [hd] at h; cases h) (by rw [hd]; exact hk)
      · exact fin (fun t' h => by rw [hd] at h; cases h; exact ht) (by rw [hd]; exact hk)
    rcases guardE_spec (by simpa only [opsD] using h) with (⟨hg, hy⟩ | ⟨j, want, t, b, hg, hd, ht, hy | hn⟩) | ⟨j, want, t, hg, hd, ht, hn⟩
    · exact yes (.inl (.inl ⟨hg, rfl⟩)) hy
    · obtain ⟨rfl, hy⟩ := hy
      rw [setT_know ht] at hy
      exact yes (.inl (.inr ⟨j, b, t, b, hg, hd, ht, by simp⟩)) hy
    · obtain ⟨hne, hn⟩ := hn
      rw [setT_know ht] at hn
      exact no (.inl (.inr ⟨j, want, t, b, hg, hd, ht, by simpa using hne⟩)) hn
    · exact no (.inr ⟨j, want, t, hg, hd, ht, rfl⟩) hn

theorem mem_reads {all : List Oper} {o : Oper} {t : Nat} (h : Operand.tmp t ∈ o.op.operands.toList) : t ∈ readsOf all o :=
  List.mem_append_left _ (List.mem_filterMap.2 ⟨_, h, rfl⟩)

/-- what is settled of a region -/
structure Settled (P : Program) (nt : Nat) (ops : Array Oper) (ds : List Do) (ρ : Nat → V) (M : Mem) : Prop where
  seq : Seq P nt ops.toList ds ρ M
  os : ds.map (·.o) = ops.toList
  ind : indepFrom (ancs ops.toList []) 0 (ds.map (Do.rc ops.toList)) = true
  edge : edgesOk 0 ops.toList = true

theorem Settled.get {ops : Array Oper} {ds : List Do} {ρ : Nat → V} {M : Mem} (s : Settled P nt ops ds ρ M) {i : Nat} {o : Oper} (h : ops[i]? = some o) : ∃ d, ds[i]? = some d ∧ d.o = o := by
  have : (ds.map (·.o))[i]? = some o := by rw [s.os]; simpa using h
  rw [List.getElem?_map] at this
  cases hd : ds[i]? with
  | none => rw [hd] at this; cases this
  | some d => rw [hd] at this; exact ⟨d, rfl, by simpa using this⟩

theorem Settled.len {ops : Array Oper} {ds : List Do} {ρ : Nat → V} {M : Mem} (s : Settled P nt ops ds ρ M) : ds.length = ops.size := by
  have := congrArg List.length s.os
  simpa using this

theorem Settled.wr_fp {ops : Array Oper} {ds : List Do} {ρ : Nat → V} {M : Mem} (s : Settled P nt ops ds ρ M) {i : Nat} {d : Do} (h : ds[i]? = some d) : ∀ b, b ∈ d.wr → b ∈ d.fp := by
  obtain ⟨_, h2, _⟩ := Seq.at ds 0 ρ M s.seq i d h
  intro b hb
  cases hr : d.ran with
  | false => simp [Do.wr, Do.upd, hr] at hb
  | true =>
    simp only [Do.wr, Do.upd, Do.fp, hr, if_true] at hb ⊢
    exact (h2 hr).1 b hb

/-- two that do not wait for each other -/
theorem Settled.free {ops : Array Oper} {ds : List Do} {ρ : Nat → V} {M : Mem} (s : Settled P nt ops ds ρ M) {i j : Nat} {di dj : Do} (hi : ds[i]? = some di) (hj : ds[j]? = some dj)
    (hlt : i < j) (hw : ¬ TW ops.toList j i) : Free di dj (readsOf ops.toList di.o) (readsOf ops.toList dj.o) := by
  have := indepFrom_spec 0 _ s.ind i j (di.rc ops.toList) (dj.rc ops.toList) (by simp [hi]) (by simp [hj]) hlt
  rw [Nat.zero_add, Nat.zero_add] at this
  rcases this with h | h
  · exact absurd (ancs_spec ops.toList [] (by simp) (fun j i hi => by simp at hi) j i h) hw
  · exact apart_free h

theorem any_order {ops : Array Oper} {ds : List Do} {ρ : Nat → V} {M : Mem} (s : Settled P nt ops ds ρ M) {Q : Exit → Act → World → Prop} :
    ∀ (fuel : Nat) (U : List Nat) (listed : Array Bool) (β : Nat → Option Loc) (Z : Nat → Prop) (a : Act) (w : World),
      listed.size = ops.size → U.length ≤ fuel → (∀ x, x < ops.size → listed.getD x false = false → x ∈ U) →
      (∀ i d, ds[i]? = some d → listed.getD i false = true → ∀ j ∈ dirs d.o, listed.getD j false = true) →
      Rel β (foldM (fun x => listed.getD x false) 0 ds M) Z nt (foldT (fun x => listed.getD x false) 0 ds ρ) a w →
      (∀ β' Z' a' w', Rel β' (runM ds M) Z' nt (runT ds ρ) a' w' → EvW β (foldM (fun x => listed.getD x false) 0 ds M) Z w β' (runM ds M) Z' w' → a'.defers = a.defers → Q .normal a' w') →
      wpAny P .any ops Q fuel listed a w := by
  intro fuel
  -- nothing is ready: all is done
  have done : ∀ (listed : Array Bool) (β : Nat → Option Loc) (Z : Nat → Prop) (a : Act) (w : World), (∀ x, x < ops.size → listed.getD x false = true) →
      Rel β (foldM (fun x => listed.getD x false) 0 ds M) Z nt (foldT (fun x => listed.getD x false) 0 ds ρ) a w →
      (∀ β' Z' a' w', Rel β' (runM ds M) Z' nt (runT ds ρ) a' w' → EvW β (foldM (fun x => listed.getD x false) 0 ds M) Z w β' (runM ds M) Z' w' → a'.defers = a.defers → Q .normal a' w') →
      Q .normal a w := by
    intro listed β Z a w hall hr hQ
    have e1 := foldT_all (D := fun x => listed.getD x false) ds 0 ρ fun i hi => by rw [Nat.zero_add]; exact hall i (by rw [← s.len]; exact hi)
    have e2 := foldM_all (D := fun x => listed.getD x false) ds 0 M fun i hi => by rw [Nat.zero_add]; exact hall i (by rw [← s.len]; exact hi)
    rw [e2] at hQ
    rw [e1, e2] at hr
    exact hQ β Z a w hr (EvW.refl _ _ _ _) rfl
  have conv : ∀ (listed : Array Bool) (x : Nat), listed.size = ops.size → x < ops.size → listed.getD x true = listed.getD x false := by
    intro listed x hs hx
    have : x < listed.size := by rw [hs]; exact hx
    simp [this]
  -- the least that is not done is ready
  have prog : ∀ (listed : Array Bool), listed.size = ops.size → Region.ready .any ops listed = [] → ∀ x, x < ops.size → listed.getD x false = true := by
    intro listed hs hr x
    induction x using Nat.strongRecOn with
    | ind x ih =>
      intro hx
      cases hh : listed.getD x false with
      | true => rfl
      | false =>
        exfalso
        have ho : ops[x]? = some ops[x] := by simp [hx]
        have : x ∈ Region.ready .any ops listed := by
          rw [mem_ready]
          refine ⟨by rw [conv listed x hs hx]; exact hh, ops[x], ho, fun e he hb => ?_⟩
          have hlt := edgesOk_spec 0 _ s.edge x ops[x] (by simp [hx]) e he hb
          rw [Nat.zero_add] at hlt
          exact ih e.on hlt (by omega)
        rw [hr] at this; cases this
  induction fuel with
  | zero =>
    intro U listed β Z a w hs hU hun hdc hr hQ
    have hU0 : U = [] := List.eq_nil_of_length_eq_zero (by omega)
    have hall : ∀ x, x < ops.size → listed.getD x false = true := fun x hx => by
      cases hh : listed.getD x false with
      | true => rfl
      | false => have := hun x hx hh; rw [hU0] at this; cases this
    refine ⟨?_, done listed β Z a w hall hr hQ⟩
    apply List.eq_nil_iff_forall_not_mem.2
    intro x hx
    obtain ⟨h0, o, ho, _⟩ := mem_ready.1 hx
    have hlt : x < ops.size := (Array.getElem?_eq_some_iff.1 ho).1
    rw [conv listed x hs hlt, hall x hlt] at h0; cases h0
  | succ fuel ih =>
    intro U listed β Z a w hs hU hun hdc hr hQ
    refine ⟨fun hnil => done listed β Z a w (prog listed hs hnil) hr hQ, fun i hi => ?_⟩
    obtain ⟨h0, o, ho, hedges⟩ := mem_ready.1 hi
    have hlt : i < ops.size := (Array.getElem?_eq_some_iff.1 ho).1
    obtain ⟨d, hd, rfl⟩ := s.get ho
    have hDi : listed.getD i false = false := by rw [← conv listed i hs hlt]; exact h0
    have hwt : ∀ j ∈ dirs d.o, listed.getD j false = true := fun j hj => by
      obtain ⟨e, he, hb, rfl⟩ := mem_dirs.1 hj
      exact hedges e he hb
    have htw : ∀ j i, TW ops.toList j i → listed.getD j false = true → listed.getD i false = true := fun j i h => by
      induction h with
      | one h hd =>
        intro hl
        obtain ⟨d', h1, rfl⟩ := s.get (by simpa using h)
        exact hdc _ d' h1 hl _ hd
      | more h hd _ ih =>
        intro hl
        obtain ⟨d', h1, rfl⟩ := s.get (by simpa using h)
        exact ih (hdc _ d' h1 hl _ hd)
    have htwi : ∀ j, TW ops.toList i j → listed.getD j false = true := fun j h => by
      have ho' : ops.toList[i]? = some d.o := by simpa using ho
      cases h with
      | one h hd =>
        rw [ho'] at h; cases h
        exact hwt _ hd
      | more h hd ht =>
        rw [ho'] at h; cases h
        exact htw _ _ ht (hwt _ hd)
    -- it may change places with all that part its state from the text's
    have hfree1 : ∀ j dj, ds[j]? = some dj → i < j → listed.getD j false = true → Free d dj (readsOf ops.toList d.o) (readsOf ops.toList dj.o) := fun j dj hj hij hDj =>
      s.free hd hj hij (fun h => by have := htw j i h hDj; rw [hDi] at this; cases this)
    have hfree2 : ∀ j dj, ds[j]? = some dj → j < i → listed.getD j false = false → Free dj d (readsOf ops.toList dj.o) (readsOf ops.toList d.o) := fun j dj hj hij hDj =>
      s.free hj hd hij (fun h => by have := htwi j h; rw [hDj] at this; cases this)
    obtain ⟨hg, hop, hdst⟩ := Seq.at ds 0 ρ M s.seq i d hd
    rw [Nat.zero_add] at hg hop
    have hT : ∀ t ∈ readsOf ops.toList d.o, foldT (fun x => listed.getD x false) 0 ds ρ t = foldT (fun x => decide (x < i)) 0 ds ρ t := fun t ht =>
      foldT_agree ds 0 ρ ρ rfl fun j dj hj hne e => by
        rw [Nat.zero_add] at hne
        rcases Nat.lt_trichotomy j i with hl | hl | hl
        · have : decide (j < i) = true := by simpa using hl
          rw [this] at hne
          exact (hfree2 j dj hj hl (by simpa using hne)).pq t e ht
        · subst hl; simp only [Nat.lt_irrefl, decide_false] at hne; exact hne hDi
        · have : decide (j < i) = false := by simp; omega
          rw [this] at hne
          exact (hfree1 j dj hj hl (by simpa using hne)).qp t e ht
    have hMm : d.ran = true → ∀ b ∈ d.eff.fp, foldM (fun x => listed.getD x false) 0 ds M b = foldM (fun x => decide (x < i)) 0 ds M b := fun hran b hb =>
      foldM_agree ds 0 M M rfl fun j dj hj hne e => by
        have hb' : b ∈ d.fp := by simp [Do.fp, hran, hb]
        rw [Nat.zero_add] at hne
        rcases Nat.lt_trichotomy j i with hl | hl | hl
        · have : decide (j < i) = true := by simpa using hl
          rw [this] at hne
          exact (hfree2 j dj hj hl (by simpa using hne)).wp b e hb'
        · subst hl; simp only [Nat.lt_irrefl, decide_false] at hne; exact hne hDi
        · have : decide (j < i) = false := by simp; omega
          rw [this] at hne
          exact (hfree1 j dj hj hl (by simpa using hne)).wq b e hb'
    -- the state afterwards
    have hset : ∀ x, (listed.setIfInBounds i true).getD x false = (x == 0 + i || listed.getD x false) := fun x => by
      rw [Nat.zero_add]
      by_cases e : x = i
      · subst e; simp [hs, hlt]
      · rw [getD_set_ne false (Ne.symm e)]
        have : (x == i) = false := by simpa using e
        rw [this, Bool.false_or]
    have hD' : (fun x => (listed.setIfInBounds i true).getD x false) = (fun x => x == 0 + i || listed.getD x false) := funext hset
    have eT := foldT_last (D := fun x => listed.getD x false) ds 0 i d ρ hd (by rw [Nat.zero_add]; exact hDi) fun j dj hj hl hDj t e => (hfree1 j dj hj hl (by rw [Nat.zero_add] at hDj; exact hDj)).dd t e
    have eM := foldM_last (D := fun x => listed.getD x false) ds 0 i d M hd (by rw [Nat.zero_add]; exact hDi) fun j dj hj hl hDj b hb hb2 =>
      (hfree1 j dj hj hl (by rw [Nat.zero_add] at hDj; exact hDj)).wp b hb (s.wr_fp hj b hb2)
    have next : ∀ (β' : Nat → Option Loc) (Z' : Nat → Prop) (v' : Value) (w' : World),
        RV β' ((foldM (fun x => listed.getD x false) 0 ds M).upds d.upd) Z' w'.heap d.val v' → RMem β' ((foldM (fun x => listed.getD x false) 0 ds M).upds d.upd) Z' w'.heap →
        EvW β (foldM (fun x => listed.getD x false) 0 ds M) Z w β' ((foldM (fun x => listed.getD x false) 0 ds M).upds d.upd) Z' w' →
        wpAny P .any ops Q fuel (listed.setIfInBounds i true) (a.put d.o.dst v') w' := by
      intro β' Z' v' w' hv hm hev
      refine ih (U.erase i) (listed.setIfInBounds i true) β' Z' _ w' (by simp [hs]) ?_ ?_ ?_ ?_ ?_
      · have : i ∈ U := hun i hlt hDi
        rw [List.length_erase_of_mem this]; omega
      · intro x hx hxf
        rw [hset, Nat.zero_add] at hxf
        simp only [Bool.or_eq_false_iff, beq_eq_false_iff_ne] at hxf
        exact (List.mem_erase_of_ne hxf.1).2 (hun x hx hxf.2)
      · intro j dj hj hDj k hk
        rw [hset] at hDj ⊢
        simp only [Nat.zero_add, Bool.or_eq_true, beq_iff_eq] at hDj ⊢
        rcases hDj with e | e
        · subst e; rw [hd] at hj; cases hj; exact .inr (hwt k hk)
        · exact .inr (hdc j dj hj e k hk)
      · rw [hD', eT, eM]
        have hr' := hr.world hev.toEv.toGrow hm
        cases hdd : d.o.dst with
        | none => exact hr'
        | some t => exact hr'.put (hdst t hdd) hv
      · rw [hD', eM]
        intro β2 Z2 a2 w2 q1 q2 q3
        exact hQ β2 Z2 a2 w2 q1 (hev.trans q2) (by rw [q3, put_defers])
    unfold wpOp
    rw [ho]
    simp only
    rcases hg with (⟨hg, hran⟩ | ⟨j, want, t, b, hg, hdt, ht, hran⟩) | ⟨j, want, t, hg, hdt, ht, hr2⟩
    · rw [if_pos (by simp [Region.wanted, hg])]
      refine .inl ((hop hran).2 _ (hMm hran) β Z a w hr.mem (fun x hx => ?_) _ _ fun v' w' β' Z' g1 g2 g3 => ?_)
      · have : evO (foldT (fun x => decide (x < i)) 0 ds ρ) x = evO (foldT (fun x => listed.getD x false) 0 ds ρ) x := by
          cases x with
          | tmp t => simp only [evO]; exact (hT t (mem_reads hx)).symm
          | _ => rfl
        rw [this]; exact hr.eval x
      · exact next β' Z' v' w' (by simpa [Do.upd, Do.val, hran] using g1) (by simpa [Do.upd, hran] using g2) (by simpa [Do.upd, hran] using g3)
    · have hd' : ((ops[j]?).bind (·.dst)) = some t := by simpa [dstOf] using hdt
      have htr : t ∈ readsOf ops.toList d.o := List.mem_append_right _ (by simp [hg, hdt])
      rw [← hT t htr] at ht
      cases hr2 : d.ran with
      | true =>
        have hw : Region.wanted d.o (yielded ops a.tmps) = true := by
          rw [hr2] at hran
          simp [Region.wanted, hg, yielded, hd', hr.bool ht, ← hran]
        rw [if_pos hw]
        refine .inl ((hop hr2).2 _ (hMm hr2) β Z a w hr.mem (fun x hx => ?_) _ _ fun v' w' β' Z' g1 g2 g3 => ?_)
        · have : evO (foldT (fun x => decide (x < i)) 0 ds ρ) x = evO (foldT (fun x => listed.getD x false) 0 ds ρ) x := by
            cases x with
            | tmp t => simp only [evO]; exact (hT t (mem_reads hx)).symm
            | _ => rfl
          rw [this]; exact hr.eval x
        · exact next β' Z' v' w' (by simpa [Do.upd, Do.val, hr2] using g1) (by simpa [Do.upd, hr2] using g2) (by simpa [Do.upd, hr2] using g3)
      | false =>
        have hw : Region.wanted d.o (yielded ops a.tmps) = false := by
          rw [hr2] at hran
          simp [Region.wanted, hg, yielded, hd', hr.bool ht, ← hran]
        rw [if_neg (by rw [hw]; simp)]
        exact next β Z undef w (by simp [Do.val, hr2]; exact undef_RV) (by simpa [Do.upd, hr2, Mem.upds] using hr.mem) (by simpa [Do.upd, hr2, Mem.upds] using EvW.refl _ _ _ _)
    · have hd' : ((ops[j]?).bind (·.dst)) = some t := by simpa [dstOf] using hdt
      have htr : t ∈ readsOf ops.toList d.o := List.mem_append_right _ (by simp [hg, hdt])
      rw [← hT t htr] at ht
      have hw : Region.wanted d.o (yielded ops a.tmps) = false := by
        have ha := hr.noBool ht
        simp only [Region.wanted, hg, yielded, hd', Option.bind_some]
        cases want <;> rfl
      rw [if_neg (by rw [hw]; simp)]
      exact next β Z undef w (by simp [Do.val, hr2]; exact undef_RV) (by simpa [Do.upd, hr2, Mem.upds] using hr.mem) (by simpa [Do.upd, hr2, Mem.upds] using EvW.refl _ _ _ _)

theorem Rel.drawn {β : Nat → Option Loc} {M : Mem} {Z : Nat → Prop} {ρ : Nat → V} {a : Act} {w : World} (r : Rel β M Z nt ρ a w) (n : Nat) : Rel β M Z nt ρ a { w with drawn := n } := ⟨r.tmps, r.size, r.mem⟩

/-- a region whose order is drawn -/
theorem opsD_ok (hT : TOK P T) (hm : P.follows .mixedOrders = true) {callE : FuncId → List V → Mem → Nat → (Eff → Option R) → Option R} (hcall : CallsOK P callE) {ops : Array Oper} {c : (Nat → V) → Mem → Nat → Option R} {r : R}
    {rid id : Nat} {ρ : Nat → V} {M : Mem} (h : opsD T callE nt ops.toList ops.toList id ρ M [] c = some r) : ∃ ρ' M' nx', c ρ' M' nx' = some r ∧
      ∀ (β : Nat → Option Loc) (Z : Nat → Prop) (a : Act) (w : World) (Q : Exit → Act → World → Prop), Rel β M Z nt ρ a w →
      (∀ β' Z' a' w', Rel β' M' Z' nt ρ' a' w' → EvW β M Z w β' M' Z' w' → a'.defers = a.defers → Q .normal a' w') →
    (Code.region rid ops true).wp P Q a w := by
  obtain ⟨ds, id', h1, h2, h3, h4, h5⟩ := opsD_seq hT hcall _ _ _ _ _ h
  refine ⟨_, _, _, h3, fun β Z a w Q hr hQ => ?_⟩
  have s : Settled P nt ops ds ρ M := ⟨h1, h2, by simpa using h4, h5⟩
  have z : ∀ x, (Array.replicate ops.size false).getD x false = false := fun x => by
    by_cases e : x < ops.size <;> simp [e]
  have z' : (fun x => (Array.replicate ops.size false).getD x false) = (fun _ => false) := funext z
  have zT : ∀ (ds : List Do) (k : Nat) (ρ : Nat → V), foldT (fun x => (Array.replicate ops.size false).getD x false) k ds ρ = ρ := by
    rw [z']
    intro ds; induction ds with
    | nil => intro _ _; rfl
    | cons _ _ ih => intro k ρ; simp only [foldT, Bool.false_eq_true, if_false]; exact ih _ _
  have zM : ∀ (ds : List Do) (k : Nat) (M : Mem), foldM (fun x => (Array.replicate ops.size false).getD x false) k ds M = M := by
    rw [z']
    intro ds; induction ds with
    | nil => intro _ _; rfl
    | cons _ _ ih => intro k ρ; simp only [foldM, Bool.false_eq_true, if_false]; exact ih _ _
  refine wp_region_any hm (any_order s ops.size (List.range ops.size) _ β Z a _ (by simp) (by simp) (fun x hx _ => by simpa using hx) (fun i d _ hD => ?_) ?_ ?_)
  · rw [z] at hD; cases hD
  · rw [zT, zM]; exact hr.drawn _
  · rw [zM]
    intro β' Z' a' w' q1 q2 q3
    exact hQ β' Z' a' w' q1 ⟨q2.toEv, q2.wd⟩ q3

end

end Go.Pv
/-! ### Code: the abstract run is right. -/
namespace Go.Pv

def Ex.out : Ex → Exit
  | .normal => .normal
  | .exit id => .exit id
  | .ret => .ret

/-- what is said of block places, memory, frozen zone and heap -/
abbrev Say := (Nat → Option Loc) → Mem → (Nat → Prop) → World → Prop

def Say.Kept (J : Say) : Prop := ∀ {β M Z w β' M' Z' w'}, J β M Z w → EvW β M Z w β' M' Z' w' → J β' M' Z' w'

section
variable {P : Program} {T : TypeId → TT} {R : Type} {nt : Nat}

/-- the loop ends within n rounds -/
def Rounds (P : Program) (c : Code) (Q : Exit → Act → World → Prop) : Nat → Act → World → Prop
  | 0, _, _ => False
  | n + 1, a, w => c.wp P (Exit.then (Rounds P c Q n) Q) a w

theorem least {p : Nat → Prop} (h : ∃ n, p n) : ∃ n, p n ∧ ∀ m, p m → n ≤ m := by
  obtain ⟨n, hn⟩ := h
  induction n using Nat.strongRecOn with
  | ind n ih =>
    by_cases e : ∃ m, m < n ∧ p m
    · obtain ⟨m, h1, h2⟩ := e; exact ih m h1 h2
    · exact ⟨n, hn, fun m hm => Nat.le_of_not_lt fun hlt => e ⟨m, hlt, hm⟩⟩

theorem wp_rounds {c : Code} {Q : Exit → Act → World → Prop} {n : Nat} {a : Act} {w : World} (h : Rounds P c Q n a w) : (Code.loop c).wp P Q a w := by
  classical
  let μ : Act → World → Nat := fun a w => if h : ∃ n, Rounds P c Q n a w then Classical.choose (least h) else 0
  refine wp_loop (fun a w => ∃ n, Rounds P c Q n a w) μ ⟨n, h⟩ fun a w hI => ?_
  have hm : μ a w = Classical.choose (least hI) := by simp only [μ]; rw [dif_pos hI]
  have hs := (Classical.choose_spec (least hI)).1
  cases hn : Classical.choose (least hI) with
  | zero => rw [hn] at hs; exact hs.elim
  | succ m =>
    rw [hn] at hs
    refine wp_mono hs fun e a' w' hq => ?_
    cases e <;> try exact hq
    have hI' : ∃ n, Rounds P c Q n a' w' := ⟨m, hq⟩
    refine ⟨hI', ?_⟩
    have hm' : μ a' w' = Classical.choose (least hI') := by simp only [μ]; rw [dif_pos hI']
    rw [hm', hm, hn]
    exact Nat.lt_succ_of_le ((Classical.choose_spec (least hI')).2 m hq)

/-- A run of code by h is right. -/
def CodeOK (P : Program) (nt : Nat) (𝒥 : Say → Prop) (code : Code) (h : (Nat → V) → Mem → Nat → Kont R → Option R) : Prop :=
  ∀ (ρ : Nat → V) (M : Mem) (nx : Nat) (K : Kont R) (r : R), h ρ M nx K = some r → ∃ ex ρ' M' nx', K ex ρ' M' nx' = some r ∧
    ∀ (J : Say), 𝒥 J → ∀ (β : Nat → Option Loc) (Z : Nat → Prop) (a : Act) (w : World) (Q : Exit → Act → World → Prop), Rel β M Z nt ρ a w → J β M Z w →
      (∀ β' Z' a' w', Rel β' M' Z' nt ρ' a' w' → J β' M' Z' w' → a'.defers = a.defers → Q ex.out a' w') → code.wp P Q a w

def HookOK (P : Program) (nt : Nat) (𝒥 : Say → Prop) (hook : Code → Option ((Nat → V) → Mem → Nat → Kont R → Option R)) : Prop := ∀ code h, hook code = some h → CodeOK P nt 𝒥 code h

theorem noHook_ok {𝒥 : Say → Prop} : HookOK P nt 𝒥 (fun _ => (none : Option ((Nat → V) → Mem → Nat → Kont R → Option R))) := fun _ _ h => by cases h

theorem codeE_all (hT : TOK P T) (hm : P.follows .mixedOrders = true) {callE : FuncId → List V → Mem → Nat → (Eff → Option R) → Option R} (hcall : CallsOK P callE)
    {𝒥 : Say → Prop} (hJ : ∀ J, 𝒥 J → Say.Kept J) {hook : Code → Option ((Nat → V) → Mem → Nat → Kont R → Option R)} (hh : HookOK P nt 𝒥 hook) :
    ∀ n, (∀ code, CodeOK P nt 𝒥 code (codeE T callE nt hook n code)) ∧
      ∀ body, hook (.loop body) = none → ∀ (ρ : Nat → V) (M : Mem) (nx : Nat) (K : Kont R) (r : R), codeE T callE nt hook n (.loop body) ρ M nx K = some r →
        ∃ ex ρ' M' nx', K ex ρ' M' nx' = some r ∧ ∀ (J : Say), 𝒥 J → ∀ (β : Nat → Option Loc) (Z : Nat → Prop) (a : Act) (w : World) (Q : Exit → Act → World → Prop), Rel β M Z nt ρ a w → J β M Z w →
          (∀ β' Z' a' w', Rel β' M' Z' nt ρ' a' w' → J β' M' Z' w' → a'.defers = a.defers → Q ex.out a' w') → Rounds P body Q n a w := by
  intro n
  induction n with
  | zero =>
    refine ⟨fun code ρ M nx K r h => ?_, fun body _ ρ M nx K r h => ?_⟩ <;> simp [codeE] at h
  | succ n ih =>
    obtain ⟨ihA, ihB⟩ := ih
    have B : ∀ body, hook (.loop body) = none → ∀ (ρ : Nat → V) (M : Mem) (nx : Nat) (K : Kont R) (r : R), codeE T callE nt hook (n + 1) (.loop body) ρ M nx K = some r →
        ∃ ex ρ' M' nx', K ex ρ' M' nx' = some r ∧ ∀ (J : Say), 𝒥 J → ∀ (β : Nat → Option Loc) (Z : Nat → Prop) (a : Act) (w : World) (Q : Exit → Act → World → Prop), Rel β M Z nt ρ a w → J β M Z w →
          (∀ β' Z' a' w', Rel β' M' Z' nt ρ' a' w' → J β' M' Z' w' → a'.defers = a.defers → Q ex.out a' w') → Rounds P body Q (n + 1) a w := by
      intro body hnone ρ M nx K r h
      simp only [codeE, hnone] at h
      obtain ⟨ex, ρ', M', nx', hk, hw⟩ := ihA body ρ M nx _ r h
      cases ex with
      | normal =>
        obtain ⟨ex2, ρ2, M2, nx2, hk2, hw2⟩ := ihB body hnone ρ' M' nx' K r hk
        exact ⟨ex2, ρ2, M2, nx2, hk2, fun J hJJ β Z a w Q hr hj hQ => hw J hJJ β Z a w _ hr hj fun β' Z' a' w' hr' hj' hd =>
          hw2 J hJJ β' Z' a' w' Q hr' hj' fun β2 Z2 a2 w2 q2 q3 q4 => hQ _ _ _ _ q2 q3 (q4.trans hd)⟩
      | exit id => exact ⟨_, _, _, _, hk, fun J hJJ β Z a w Q hr hj hQ => hw J hJJ β Z a w _ hr hj fun β' Z' a' w' hr' hj' hd => hQ _ _ _ _ hr' hj' hd⟩
      | ret => exact ⟨_, _, _, _, hk, fun J hJJ β Z a w Q hr hj hQ => hw J hJJ β Z a w _ hr hj fun β' Z' a' w' hr' hj' hd => hQ _ _ _ _ hr' hj' hd⟩
    refine ⟨fun code ρ M nx K r h => ?_, B⟩
    cases hk : hook code with
    | some hc =>
      simp only [codeE, hk] at h
      exact hh code hc hk ρ M nx K r h
    | none =>
      have h0 := h
      simp only [codeE, hk] at h
      cases code with
      | skip => exact ⟨_, _, _, _, h, fun J hJJ β Z a w Q hr hj hQ => wp_skip (hQ _ _ _ _ hr hj rfl)⟩
      | region id ops draw =>
        simp only at h
        cases draw with
        | true =>
          simp only [cond_true] at h
          obtain ⟨ρ', M', nx', hc, hw⟩ := opsD_ok (rid := id) hT hm hcall h
          exact ⟨_, _, _, _, hc, fun J hJJ β Z a w Q hr hj hQ => hw β Z a w Q hr fun β' Z' a' w' q2 q3 q4 => hQ _ _ _ _ q2 (hJ J hJJ hj q3) q4⟩
        | false =>
          simp only [cond_false] at h
          obtain ⟨ρ', M', nx', hc, hw⟩ := opsE_ok hT hcall _ _ _ _ h
          exact ⟨_, _, _, _, hc, fun J hJJ β Z a w Q hr hj hQ => wp_region_list (hw β Z a w Q hr fun β' Z' a' w' q2 q3 q4 => hQ _ _ _ _ q2 (hJ J hJJ hj q3) q4)⟩
      | seq x y =>
        simp only at h
        obtain ⟨ex, ρ', M', nx', hk, hw⟩ := ihA x ρ M nx _ r h
        cases ex with
        | normal =>
          obtain ⟨ex2, ρ2, M2, nx2, hk2, hw2⟩ := ihA y ρ' M' nx' K r hk
          exact ⟨ex2, ρ2, M2, nx2, hk2, fun J hJJ β Z a w Q hr hj hQ => wp_seq (hw J hJJ β Z a w _ hr hj fun β' Z' a' w' hr' hj' hd =>
            hw2 J hJJ β' Z' a' w' Q hr' hj' fun β2 Z2 a2 w2 q2 q3 q4 => hQ _ _ _ _ q2 q3 (q4.trans hd))⟩
        | exit id => exact ⟨_, _, _, _, hk, fun J hJJ β Z a w Q hr hj hQ => wp_seq (hw J hJJ β Z a w _ hr hj fun β' Z' a' w' hr' hj' hd => hQ _ _ _ _ hr' hj' hd)⟩
        | ret => exact ⟨_, _, _, _, hk, fun J hJJ β Z a w Q hr hj hQ => wp_seq (hw J hJJ β Z a w _ hr hj fun β' Z' a' w' hr' hj' hd => hQ _ _ _ _ hr' hj' hd)⟩
      | cond c x y =>
        simp only at h
        cases c <;> simp only [reduceCtorEq] at h
        rename_i t
        cases ht : ρ t <;> simp only [ht, reduceCtorEq] at h
        rename_i q
        have ev : ∀ (β : Nat → Option Loc) (Z : Nat → Prop) (a : Act) (w : World), Rel β M Z nt ρ a w → a.eval (.tmp t) = .bool q := fun β Z a w hr => by
          have := hr.eval (.tmp t)
          simp only [evO, ht] at this
          exact this.bool_inv
        cases q with
        | true =>
          simp only [cond_true] at h
          obtain ⟨ex, ρ', M', nx', hk, hw⟩ := ihA x _ M nx K r h
          exact ⟨ex, ρ', M', nx', hk, fun J hJJ β Z a w Q hr hj hQ => wp_cond_true (ev β Z a w hr) (hw J hJJ β Z a w Q (hr.know ht) hj hQ)⟩
        | false =>
          simp only [cond_false] at h
          obtain ⟨ex, ρ', M', nx', hk, hw⟩ := ihA y _ M nx K r h
          exact ⟨ex, ρ', M', nx', hk, fun J hJJ β Z a w Q hr hj hQ => wp_cond_false (ev β Z a w hr) (hw J hJJ β Z a w Q (hr.know ht) hj hQ)⟩
      | block id body =>
        simp only at h
        obtain ⟨ex, ρ', M', nx', hk, hw⟩ := ihA body ρ M nx _ r h
        cases ex with
        | normal => exact ⟨_, _, _, _, hk, fun J hJJ β Z a w Q hr hj hQ => wp_block (hw J hJJ β Z a w _ hr hj fun β' Z' a' w' hr' hj' hd => hQ _ _ _ _ hr' hj' hd)⟩
        | exit id' =>
          simp only at hk
          cases hb : Nat.beq id' id with
          | true =>
            rw [hb] at hk
            refine ⟨_, _, _, _, hk, fun J hJJ β Z a w Q hr hj hQ => wp_block (hw J hJJ β Z a w _ hr hj fun β' Z' a' w' hr' hj' hd => ?_)⟩
            simp only [Ex.out, Exit.inBlock]
            rw [if_pos (Nat.eq_of_beq_eq_true hb)]
            exact hQ _ _ _ _ hr' hj' hd
          | false =>
            rw [hb] at hk
            refine ⟨_, _, _, _, hk, fun J hJJ β Z a w Q hr hj hQ => wp_block (hw J hJJ β Z a w _ hr hj fun β' Z' a' w' hr' hj' hd => ?_)⟩
            simp only [Ex.out, Exit.inBlock]
            rw [if_neg (fun e => by subst e; simp at hb)]
            exact hQ _ _ _ _ hr' hj' hd
        | ret => exact ⟨_, _, _, _, hk, fun J hJJ β Z a w Q hr hj hQ => wp_block (hw J hJJ β Z a w _ hr hj fun β' Z' a' w' hr' hj' hd => hQ _ _ _ _ hr' hj' hd)⟩
      | loop body =>
        obtain ⟨ex, ρ', M', nx', hk', hw⟩ := B body hk ρ M nx K r h0
        exact ⟨ex, ρ', M', nx', hk', fun J hJJ β Z a w Q hr hj hQ => wp_rounds (hw J hJJ β Z a w Q hr hj hQ)⟩
      | exit id => exact ⟨_, _, _, _, h, fun J hJJ β Z a w Q hr hj hQ => wp_exit (hQ _ _ _ _ hr hj rfl)⟩
      | ret => exact ⟨_, _, _, _, h, fun J hJJ β Z a w Q hr hj hQ => wp_ret (hQ _ _ _ _ hr hj rfl)⟩
      | _ => simp only [reduceCtorEq] at h

theorem codeE_ok (hT : TOK P T) (hm : P.follows .mixedOrders = true) {callE : FuncId → List V → Mem → Nat → (Eff → Option R) → Option R} (hcall : CallsOK P callE)
    {𝒥 : Say → Prop} (hJ : ∀ J, 𝒥 J → Say.Kept J) {hook : Code → Option ((Nat → V) → Mem → Nat → Kont R → Option R)} (hh : HookOK P nt 𝒥 hook) (n : Nat) (code : Code) : CodeOK P nt 𝒥 code (codeE T callE nt hook n code) :=
  (codeE_all hT hm hcall hJ hh n).1 code

end
end Go.Pv
/-! ### Calls that are run in place. -/
namespace Go.Pv

/-! ### The blocks that a value names -/
mutual
def V.refs : V → List Nat
  | .ptr b _ _ _ => [b]
  | .pa b _ _ _ _ _ => [b]
  | .sl b _ _ _ => [b]
  | .sb b _ _ _ => [b]
  | .mp b => [b]
  | .fn _ cap => refsL cap
  | .agg cs => refsL cs
  | .tup vs => refsL vs
  | _ => []
def refsL : List V → List Nat
  | [] => []
  | v :: r => v.refs ++ refsL r
end

theorem refsL_mem {b : Nat} : ∀ {cs : List V} {i : Nat} (hi : i < cs.length), b ∈ cs[i].refs → b ∈ refsL cs
  | c :: r, 0, _, h => by simp only [refsL, List.mem_append]; exact .inl h
  | c :: r, i + 1, hi, h => by
    simp only [refsL, List.mem_append]
    exact .inr (refsL_mem (cs := r) (i := i) (by simpa using hi) h)

def Blk.refs : Blk → List Nat
  | .box cells => refsL cells
  | _ => []

def reach (M : Mem) : Nat → List Nat → List Nat → List Nat
  | 0, _, seen => seen
  | _ + 1, [], seen => seen
  | n + 1, b :: r, seen => bif hasN b seen then reach M n r seen else reach M n ((M b).refs ++ r) (b :: seen)

def subN (a b : List Nat) : Bool := a.all fun x => hasN x b
def closedN (M : Mem) (l : List Nat) : Bool := l.all fun b => subN (M b).refs l

/-- the part of memory in l -/
def Mem.only (M : Mem) (l : List Nat) : Mem := fun b => bif hasN b l then M b else .none

section
variable {R : Type}

def forceNs : List Nat → (List Nat → Option R) → Option R
  | [], k => k []
  | b :: r, k => forceN b fun b => forceNs r fun r => k (b :: r)

def forceUp : List (Nat × Blk) → (List (Nat × Blk) → Option R) → Option R
  | [], k => k []
  | (b, x) :: r, k => forceN b fun b => x.force fun x => forceUp r fun r => k ((b, x) :: r)

abbrev CallE (R : Type) := FuncId → List V → Mem → Nat → (Eff → Option R) → Option R

/-- what comes back -/
def leaveE (T : TypeId → TT) (fn : Func) (fp0 : List Nat) (M0 : Mem) (c : Eff → Option R) : Kont R := fun ex ρ M _ =>
  match ex with
  | .exit _ => none
  | _ => match resE T ρ M fn.results.toList with
    | none => none
    | some vs => (retV vs).force fun v => forceNs (reach M 1000 (v.refs ++ fp0) []) fun ids =>
      bif closedN M ids && subN v.refs ids && subN fp0 ids && ids.all (fun b => hasN b fp0 || (M0 b).isNone) then
        forceUp (ids.map fun b => (b, M b)) fun u => c { val := v, upd := u, fp := ids }
      else none

def inlineE (P : Program) (T : TypeId → TT) (callE : CallE R) : CallE R := fun f args M id c =>
  match P.funcs[f]? with
  | none => none
  | some fn => match fn.body with
    | none => none
    | some code => forceL2 args fun args => forceNs (reach M 1000 (refsL args) []) fun fp0 =>
      bif closedN M fp0 && subN (refsL args) fp0 && Nat.ble args.length fn.ntmps then
        forceN ((id + 1) * 100000) fun nx => codeE T callE fn.ntmps (fun _ => none) 100000 code (paramsE args 0) (M.only fp0) nx (leaveE T fn fp0 M c)
      else none

/-- calls, d deep -/
def callsE (P : Program) (T : TypeId → TT) (spec : FuncId → Option (List V → Mem → Nat → (Eff → Option R) → Option R)) : Nat → CallE R
  | 0 => fun _ _ _ _ _ => none
  | d + 1 => fun f args M id c => match spec f with
    | some s => s args M id c
    | none => inlineE P T (callsE P T spec d) f args M id c

end
end Go.Pv
/-! ### Calls that are run in place: they are right. -/
namespace Go.Pv

section
variable {β β' : Nat → Option Loc} {M M' : Mem} {Z Z' : Nat → Prop} {h h' : Heap}

theorem RV.keepRefs {x : V} {v : Value} (r : RV β M Z h x v) (hk : ∀ b ∈ x.refs, M' b = M b ∧ β' b = β b) : RV β' M' Z h x v := by
  induction r with
  | dead v => exact .dead v
  | bool b => exact .bool b
  | int k n => exact .int k n
  | str s => exact .str s
  | nils => exact .nils
  | nilp => exact .nilp
  | nilf => exact .nilf
  | nilm => exact .nilm
  | mp b v h1 hn hg => obtain ⟨e1, e2⟩ := hk b (by simp [V.refs]); exact .mp b v h1 (by rw [e1]; exact hn) (by rw [e1, e2]; exact hg)
  | ptr b i j g v h1 hn hg => obtain ⟨e1, e2⟩ := hk b (by simp [V.refs]); exact .ptr b i j g v h1 (by rw [e1]; exact hn) (by rw [e1, e2]; exact hg)
  | pa b j e n x o v h1 hn hg => obtain ⟨e1, e2⟩ := hk b (by simp [V.refs]); exact .pa b j e n x o v h1 (by rw [e1]; exact hn) (by rw [e1, e2]; exact hg)
  | sl b i m g v h1 hn hg => obtain ⟨e1, e2⟩ := hk b (by simp [V.refs]); exact .sl b i m g v h1 (by rw [e1]; exact hn) (by rw [e1, e2]; exact hg)
  | sb b j s n v h1 hn hg => obtain ⟨e1, e2⟩ := hk b (by simp [V.refs]); exact .sb b j s n v h1 (by rw [e1]; exact hn) (by rw [e1, e2]; exact hg)
  | fz τ l v hd => exact .fz τ l v hd
  | fp τ l i j v cb off c T fz x hv hz hc hx ho hd => exact .fp τ l i j v cb off c T fz x hv hz hc hx ho hd
  | fn f cap vs hl hc ih => exact .fn f cap vs hl fun i hi => ih i hi fun b hb => hk b (by simp only [V.refs]; exact refsL_mem hi hb)
  | agg cs vs hl hc ih => exact .agg cs vs hl fun i hi => ih i hi fun b hb => hk b (by simp only [V.refs]; exact refsL_mem hi hb)
  | tup cs vs hl hc ih => exact .tup cs vs hl fun i hi => ih i hi fun b hb => hk b (by simp only [V.refs]; exact refsL_mem hi hb)

theorem RB.keepRefs {b : Nat} (r : RB β M Z h b) (e1 : M' b = M b) (e2 : β' b = β b) (hk : ∀ b' ∈ (M b).refs, M' b' = M b' ∧ β' b' = β b') : RB β' M' Z h b := by
  unfold RB at *
  rw [e1, e2]
  cases hm : M b with
  | none => simp
  | dead => simp
  | box cells =>
    simp only [hm] at r ⊢
    obtain ⟨cb, T, c, a1, a2, a3, a4⟩ := r
    exact ⟨cb, T, c, a1, a2, a3, fun i hi => (a4 i hi).keepRefs fun b' hb' => hk b' (by rw [hm]; exact refsL_mem hi hb')⟩
  | row τ l g ro => simp only [hm] at r ⊢; exact r
  | mp k τ l => simp only [hm] at r ⊢; exact r

theorem subN_iff {a b : List Nat} : subN a b = true ↔ ∀ x ∈ a, x ∈ b := by
  simp only [subN, List.all_eq_true, hasN_iff]

theorem closedN_iff {l : List Nat} : closedN M l = true ↔ ∀ b ∈ l, ∀ x ∈ (M b).refs, x ∈ l := by
  simp only [closedN, List.all_eq_true, subN_iff]

theorem only_in {l : List Nat} {b : Nat} (hb : b ∈ l) : M.only l b = M b := by simp [Mem.only, hasN_iff.2 hb]
theorem only_out {l : List Nat} {b : Nat} (hb : b ∉ l) : M.only l b = .none := by simp [Mem.only, hasN_not.2 hb]

theorem only_lies {l : List Nat} {b cb : Nat} (hl : lies β (M.only l) b cb) : b ∈ l ∧ lies β M b cb := by
  by_cases hb : b ∈ l
  · exact ⟨hb, by unfold lies at *; rwa [only_in hb] at hl⟩
  · unfold lies at hl; rw [only_out hb] at hl; exact absurd rfl hl.1

theorem only_owned {l : List Nat} {cb : Nat} (ho : owned β (M.only l) cb) : ∃ b ∈ l, (M b).own = true ∧ lies β M b cb := by
  obtain ⟨b, h1, h2⟩ := ho
  obtain ⟨h3, h4⟩ := only_lies h2
  exact ⟨b, h3, by rwa [only_in h3] at h1, h4⟩

/-- into the call -/
theorem RMem.enter (r : RMem β M Z h) {l : List Nat} (hc : ∀ b ∈ l, ∀ x ∈ (M b).refs, x ∈ l) : RMem β (M.only l) Z h where
  blk b := by
    by_cases hb : b ∈ l
    · exact (r.blk b).keepRefs (only_in hb) rfl fun b' hb' => ⟨only_in (hc b hb b' hb'), rfl⟩
    · unfold RB; rw [only_out hb]; trivial
  sep b b' cb h1 h2 h3 := by
    obtain ⟨a1, a2⟩ := only_lies h2
    obtain ⟨b1, b2⟩ := only_lies h3
    rw [only_in a1] at h1
    exact r.sep b b' cb h1 a2 b2
  zown cb hz ho := by
    obtain ⟨b, _, h1, h2⟩ := only_owned ho
    exact r.zown cb hz ⟨b, h1, h2⟩
  zlt := r.zlt

/-- memory after the call -/
def Mem.join (M M' : Mem) (ids : List Nat) : Mem := fun b => bif hasN b ids then M' b else M b
def joinB (β β' : Nat → Option Loc) (ids : List Nat) : Nat → Option Loc := fun b => bif hasN b ids then β' b else β b

theorem join_in {ids : List Nat} {b : Nat} (hb : b ∈ ids) : M.join M' ids b = M' b := by simp [Mem.join, hasN_iff.2 hb]
theorem join_out {ids : List Nat} {b : Nat} (hb : b ∉ ids) : M.join M' ids b = M b := by simp [Mem.join, hasN_not.2 hb]
theorem joinB_in {ids : List Nat} {b : Nat} (hb : b ∈ ids) : joinB β β' ids b = β' b := by simp [joinB, hasN_iff.2 hb]
theorem joinB_out {ids : List Nat} {b : Nat} (hb : b ∉ ids) : joinB β β' ids b = β b := by simp [joinB, hasN_not.2 hb]

theorem upds_join {ids : List Nat} : M.upds (ids.map fun b => (b, M' b)) = M.join M' ids := by
  funext b
  by_cases hb : b ∈ ids
  · rw [join_in hb]
    have gen : ∀ (ids : List Nat) (M : Mem), b ∈ ids → M.upds (ids.map fun b => (b, M' b)) b = M' b := by
      intro ids
      induction ids with
      | nil => intro M hb; cases hb
      | cons x r ih =>
        intro M hb
        simp only [List.map_cons, Mem.upds]
        by_cases hr : b ∈ r
        · exact ih _ hr
        · have : b = x := by
            rcases List.mem_cons.1 hb with e | e
            · exact e
            · exact absurd e hr
          subst this
          rw [upds_not (by simpa using hr), upd_same]
    exact gen ids M hb
  · rw [join_out hb, upds_not (by simpa using hb)]

theorem join_lies {ids : List Nat} {b cb : Nat} (hl : lies (joinB β β' ids) (M.join M' ids) b cb) : (b ∈ ids ∧ lies β' M' b cb) ∨ (b ∉ ids ∧ lies β M b cb) := by
  by_cases hb : b ∈ ids
  · exact .inl ⟨hb, by unfold lies at *; rwa [join_in hb, joinB_in hb] at hl⟩
  · exact .inr ⟨hb, by unfold lies at *; rwa [join_out hb, joinB_out hb] at hl⟩

theorem gen_ne_none_of_own {k : Blk} (h : k.own = true) : k.gen ≠ none := by cases k <;> simp_all [Blk.own, Blk.gen]

section leave
variable {fp ids : List Nat}

/-- out of the call -/
theorem leave (rm : RMem β M Z h) (rm' : RMem β' M' Z' h') (ev : Ev β (M.only fp) Z h β' M' Z' h') (hcl : ∀ b ∈ ids, ∀ x ∈ (M' b).refs, x ∈ ids)
    (hfp : ∀ b ∈ fp, b ∈ ids) (hnew : ∀ b ∈ ids, b ∈ fp ∨ M b = .none) :
    RMem (joinB β β' ids) (M.join M' ids) Z' h' ∧ Ev β M Z h (joinB β β' ids) (M.join M' ids) Z' h' ∧
      ∀ x v, RV β' M' Z' h' x v → (∀ b ∈ x.refs, b ∈ ids) → RV (joinB β β' ids) (M.join M' ids) Z' h' x v := by
  have own_only : ∀ cb, owned β (M.only fp) cb → ∃ b ∈ fp, (M b).own = true ∧ lies β M b cb := fun cb => only_owned
  -- the part that the call has not seen keeps its cells
  have apart : ∀ b, b ∉ ids → ∀ cb, lies β M b cb → ¬ owned β (M.only fp) cb := fun b hb cb hl ho => by
    obtain ⟨b', h1, h2, h3⟩ := own_only cb ho
    have := rm.sep b' b cb h2 h3 hl
    subst this
    exact hb (hfp _ h1)
  have keepcell : ∀ b, b ∉ ids → ∀ cb, lies β M b cb → h'[cb]? = h[cb]? := fun b hb cb hl =>
    ev.frame cb (lies_lt (rm.blk b) hl) (apart b hb cb hl)
  have grow : Grow β M Z h (joinB β β' ids) (M.join M' ids) Z' h' := by
    refine ⟨ev.zkeep, ev.zmono, fun b hb => ?_, fun b hb hg => ?_, fun b g hg g' hg' => ?_⟩
    · by_cases hi : b ∈ ids
      · rw [join_in hi]
        rcases hnew b hi with hf | hn
        · exact ev.nn b (by rw [only_in hf]; exact hb)
        · exact absurd hn hb
      · rw [join_out hi]; exact hb
    · by_cases hi : b ∈ ids
      · rw [join_in hi]
        rcases hnew b hi with hf | hn
        · exact ev.gone b (by rw [only_in hf]; exact hb) (by rw [only_in hf]; exact hg)
        · exact absurd hn hb
      · rw [join_out hi]; exact hg
    · by_cases hi : b ∈ ids
      · rw [join_in hi] at hg' ⊢
        rw [joinB_in hi]
        rcases hnew b hi with hf | hn
        · have := ev.gens b g (by rw [only_in hf]; exact hg) g' hg'
          rwa [only_in hf] at this
        · rw [hn] at hg; cases hg
      · rw [join_out hi] at hg' ⊢
        rw [joinB_out hi]
        rw [hg] at hg'; cases hg'
        exact ⟨Nat.le_refl _, fun _ => ⟨rfl, rfl, rfl, rfl⟩⟩
  have zout : ∀ cb, Z' cb → ∀ b, b ∉ ids → (M b).own = true → ¬ lies β M b cb := fun cb hz b hb ho hl => by
    rcases ev.znew cb hz with h1 | h1 | h1
    · exact rm.zown cb h1 ⟨b, ho, hl⟩
    · have := lies_lt (rm.blk b) hl; omega
    · exact apart b hb cb hl h1
  have hmem : RMem (joinB β β' ids) (M.join M' ids) Z' h' := by
    refine ⟨fun b => ?_, fun b b' cb ho hl hl' => ?_, fun cb hz ho => ?_, rm'.zlt⟩
    · by_cases hi : b ∈ ids
      · exact (rm'.blk b).keepRefs (join_in hi) (joinB_in hi) fun b' hb' => ⟨join_in (hcl b hi b' hb'), joinB_in (hcl b hi b' hb')⟩
      · exact (rm.blk b).keep grow (join_out hi) (fun _ => joinB_out hi) (keepcell b hi)
    · rcases join_lies hl with ⟨h1, h2⟩ | ⟨h1, h2⟩ <;> rcases join_lies hl' with ⟨h3, h4⟩ | ⟨h3, h4⟩
      · rw [join_in h1] at ho; exact rm'.sep b b' cb ho h2 h4
      · -- b is in, and owns; b' is out
        rw [join_in h1] at ho
        exfalso
        rcases ev.own cb ⟨b, ho, h2⟩ with h5 | h5
        · have := lies_lt (rm.blk b') h4; omega
        · exact apart b' h3 cb h4 h5
      · -- b is out, and owns; b' is in
        rw [join_out h1] at ho
        exfalso
        -- what b' lies in is owned, or frozen
        have hb' := rm'.blk b'
        cases hro : (M' b').own with
        | true =>
          rcases ev.own cb ⟨b', hro, h4⟩ with h5 | h5
          · have := lies_lt (rm.blk b) h2; omega
          · exact apart b h1 cb h2 h5
        | false =>
          have hz : Z' cb := by
            unfold RB at hb'
            obtain ⟨g1, g2⟩ := h4
            cases hk : M' b' with
            | none => simp [hk, Blk.gen] at g1
            | dead => simp [hk, Blk.gen] at g1
            | box cells => simp [hk, Blk.own] at hro
            | mp _ _ _ => simp [hk, Blk.own] at hro
            | row τ l g ro =>
              simp only [hk] at hb'
              have hro' : ro = true := by simpa [hk, Blk.own] using hro
              rcases hb' with ⟨_, e⟩ | ⟨cb', base, T, c, fz, e1, _, _, _, _, e6⟩
              · rw [e] at g2; simp [Loc.blk?] at g2
              · rw [e1] at g2; simp only [Loc.blk?, Option.some.injEq] at g2; subst g2; exact e6 hro'
          exact zout cb hz b h1 ho h2
      · rw [join_out h1] at ho; exact rm.sep b b' cb ho h2 h4
    · obtain ⟨b, h1, h2⟩ := ho
      rcases join_lies h2 with ⟨h3, h4⟩ | ⟨h3, h4⟩
      · rw [join_in h3] at h1; exact rm'.zown cb hz ⟨b, h1, h4⟩
      · rw [join_out h3] at h1; exact zout cb hz b h3 h1 h4
  refine ⟨hmem, ?_, fun x v hx hr => hx.keepRefs fun b hb => ⟨join_in (hr b hb), joinB_in (hr b hb)⟩⟩
  refine ⟨grow, ev.size, fun cb hlt ho => ev.frame cb hlt fun hq => ?_, fun cb ho => ?_, fun cb hz => ?_⟩
  · obtain ⟨b, _, h1, h2⟩ := own_only cb hq
    exact ho ⟨b, h1, h2⟩
  · obtain ⟨b, h1, h2⟩ := ho
    rcases join_lies h2 with ⟨h3, h4⟩ | ⟨h3, h4⟩
    · rw [join_in h3] at h1
      rcases ev.own cb ⟨b, h1, h4⟩ with h5 | h5
      · exact .inl h5
      · obtain ⟨b', _, h6, h7⟩ := own_only cb h5; exact .inr ⟨b', h6, h7⟩
    · rw [join_out h3] at h1; exact .inr ⟨b, h1, h4⟩
  · rcases ev.znew cb hz with h1 | h1 | h1
    · exact .inl h1
    · exact .inr (.inl h1)
    · obtain ⟨b', _, h6, h7⟩ := own_only cb h1; exact .inr (.inr ⟨b', h6, h7⟩)

end leave
end
end Go.Pv
/-! ### Calls that are run in place, the end: results, parameters, the whole. -/
namespace Go.Pv

section
variable {P : Program} {T : TypeId → TT} {R : Type}
variable {β β' : Nat → Option Loc} {M M' : Mem} {Z Z' : Nat → Prop} {nt : Nat} {ρ : Nat → V} {a : Act} {w w' : World}

/-- one result -/
def oneResult (tmps : Array Value) : ResultVar → Sem Value
  | .tmp t => pure (tmps.getD t undef)
  | .cell a t => do loadVar t (← asAddr (tmps.getD a undef))

theorem results_eq (fn : Func) (tmps : Array Value) : results fn tmps = (do let vs ← fn.results.mapM (oneResult tmps); pure (if h : vs.size = 1 then vs[0] else .tuple vs)) := by
  unfold results
  congr 1

theorem loadAt_asAddr {t : TypeId} {v u : Value} (h : (Instr.loadAt t v).run P w = .ok u w) : (do loadVar t (← asAddr v) : Sem Value).run P w = .ok u w := by
  unfold Instr.loadAt at h
  cases v with
  | pointer p =>
    cases p with
    | some ad => exact h
    | none => simp [Instr.sureAddr, stuck, Sem.run_bind, Result.andThen] at h
  | _ => simp [Instr.sureAddr, stuck, Sem.run_bind, Result.andThen] at h

theorem resE_ok (hT : TOK P T) : ∀ (rs : List ResultVar) (vs : List V), resE T ρ M rs = some vs → Rel β M Z nt ρ a w →
    ∃ us, (rs.mapM (oneResult a.tmps)).run P w = .ok us w ∧ RL β M Z w.heap vs us
  | [], vs, h, _ => by
    simp only [resE, Option.some.injEq] at h; subst h
    exact ⟨[], by simp, RL.nil⟩
  | .tmp t :: r, vs, h, hr => by
    simp only [resE] at h
    cases h1 : resE T ρ M r with
    | none => rw [h1] at h; cases h
    | some vs' =>
      rw [h1] at h; simp only [Option.some.injEq] at h; subst h
      obtain ⟨us, e1, e2⟩ := resE_ok hT r vs' h1 hr
      exact ⟨_ :: us, by simp [List.mapM_cons, oneResult, e1], RL.cons (hr.tmps t) e2⟩
  | .cell ad t :: r, vs, h, hr => by
    simp only [resE] at h
    cases h0 : loadE T M t (ρ ad) (fun e => some e.val) with
    | none => rw [h0] at h; cases h
    | some v =>
      rw [h0] at h
      simp only at h
      cases h1 : resE T ρ M r with
      | none => rw [h1] at h; cases h
      | some vs' =>
        rw [h1] at h; simp only [Option.some.injEq] at h; subst h
        obtain ⟨us, e1, e2⟩ := resE_ok hT r vs' h1 hr
        obtain ⟨val, fp, h2, h3⟩ := loadE_spec hT h0
        simp only [Option.some.injEq] at h2; subst h2
        obtain ⟨u, h4, h5⟩ := h3 M (fun _ _ => rfl) β Z w _ hr.mem (hr.tmps ad)
        have h6 := loadAt_asAddr h4
        refine ⟨u :: us, ?_, RL.cons h5 e2⟩
        rw [List.mapM_cons]
        simp only [Sem.run_bind]
        rw [show (oneResult a.tmps (.cell ad t)).run P w = .ok u w from h6]
        simp [e1]

theorem retV_ok {vs : List V} {us : List Value} {h : Heap} (hr : RL β M Z h vs us) : RV β M Z h (retV vs) (if h : us.toArray.size = 1 then us.toArray[0] else .tuple us.toArray) := by
  cases vs with
  | nil =>
    have : us = [] := by have := hr.1; simpa using this.symm
    subst this
    exact .tup [] #[] rfl (fun i hi => by simp at hi)
  | cons x r =>
    obtain ⟨u, us', rfl, hx, hr'⟩ := hr.cons_inv
    cases r with
    | nil =>
      have : us' = [] := by have := hr'.1; simpa using this.symm
      subst this
      simpa [retV] using hx
    | cons y r =>
      have hl : ¬ (u :: us').toArray.size = 1 := by
        have := hr'.1; simp at this ⊢; intro e; subst e; simp at this
      rw [dif_neg hl]
      obtain ⟨e1, e2⟩ := RL.to_arr (vs := (u :: us').toArray) (by simpa using hr)
      exact .tup _ _ e1 e2

/-- the frame at the beginning -/
theorem params_ok {h : Heap} : ∀ {args : List V} {vs : List Value} (_ : RL β M Z h args vs) (i t : Nat), RV β M Z h (paramsE args i t) (if t < i then undef else vs.getD (t - i) undef)
  | [], vs, hr, i, t => by exact .dead _
  | x :: r, vs, hr, i, t => by
    obtain ⟨v, vs', rfl, hx, hr'⟩ := hr.cons_inv
    simp only [paramsE]
    by_cases e : t = i
    · subst e; rw [setT_same]; simpa using hx
    · rw [setT_ne _ _ e]
      have := params_ok hr' (i + 1) t
      by_cases hlt : t < i
      · rw [if_pos hlt]; rw [if_pos (by omega)] at this; exact this
      · rw [if_neg hlt]; rw [if_neg (by omega)] at this
        rw [show t - i = (t - (i + 1)) + 1 from by omega]
        simpa using this

theorem Rel.begin {args : List V} {vs : Array Value} {n : Nat} (hm : RMem β M Z w.heap) (hr : RL β M Z w.heap args vs.toList) (hn : args.length ≤ n) :
    Rel β M Z n (paramsE args 0) { tmps := vs ++ Array.replicate (n - vs.size) undef, defers := [] } w := by
  have hl : args.length = vs.size := by simpa using hr.1
  refine ⟨fun t => ?_, by simp; omega, hm⟩
  have := params_ok hr 0 t
  simp only [Nat.not_lt_zero, if_false, Nat.sub_zero] at this
  have e : (vs ++ Array.replicate (n - vs.size) undef).getD t undef = vs.toList.getD t undef := by
    by_cases ht : t < vs.size
    · simp [Array.getElem?_append, ht]
    · simp [Array.getElem?_append, ht, Array.getElem?_replicate]
      split <;> simp
  rw [e]; exact this

theorem forceNs_eq : ∀ (l : List Nat) (k : List Nat → Option R), forceNs l k = k l
  | [], k => rfl
  | b :: r, k => by simp only [forceNs, forceN_eq, forceNs_eq r]

theorem blkForce_eq (x : Blk) (k : Blk → Option R) : x.force k = k x := by
  cases x <;> simp only [Blk.force, forceL2_eq]

theorem forceUp_eq : ∀ (l : List (Nat × Blk)) (k : List (Nat × Blk) → Option R), forceUp l k = k l
  | [], k => rfl
  | (b, x) :: r, k => by simp only [forceUp, forceN_eq, blkForce_eq, forceUp_eq r]

theorem isNone_iff {x : Blk} (h : x.isNone = true) : x = .none := by cases x <;> simp_all [Blk.isNone]

theorem inlineE_ok (hT : TOK P T) (hm : P.follows .mixedOrders = true) (hname : ∀ (f : FuncId) fn, P.funcs[f]? = some fn → (fn.name == "runtime.NumGoroutine") = false)
    {callE : CallE R} (hcall : CallsOK P callE) : CallsOK P (inlineE P T callE) := by
  intro f args M id c r h
  unfold inlineE at h
  cases hf : P.funcs[f]? with
  | none => rw [hf] at h; cases h
  | some fn =>
    rw [hf] at h
    simp only at h
    cases hb : fn.body with
    | none => rw [hb] at h; cases h
    | some code =>
      rw [hb] at h
      simp only [forceL2_eq, forceNs_eq, forceN_eq] at h
      generalize reach M 1000 (refsL args) [] = fp0 at h
      cases hc : closedN M fp0 && subN (refsL args) fp0 && Nat.ble args.length fn.ntmps with
      | false => rw [hc] at h; cases h
      | true =>
        rw [hc] at h
        simp only [cond_true] at h
        simp only [Bool.and_eq_true] at hc
        obtain ⟨⟨hc1, hc2⟩, hc3⟩ := hc
        rw [closedN_iff] at hc1
        rw [subN_iff] at hc2
        have hc3 := Nat.le_of_ble_eq_true hc3
        obtain ⟨ex, ρ', M', nx', hk, hw⟩ := codeE_ok (𝒥 := Say.Kept) hT hm hcall (fun _ h => h) noHook_ok 100000 code _ _ _ _ _ h
        have hex : ∀ id, ex ≠ .exit id := fun id e => by subst e; simp [leaveE] at hk
        have hk' : (match resE T ρ' M' fn.results.toList with
          | none => none
          | some vs => (retV vs).force fun v => forceNs (reach M' 1000 (v.refs ++ fp0) []) fun ids =>
            bif closedN M' ids && subN v.refs ids && subN fp0 ids && ids.all (fun b => hasN b fp0 || (M b).isNone) then
              forceUp (ids.map fun b => (b, M' b)) fun u => c { val := v, upd := u, fp := ids }
            else none) = some r := by
          cases ex with
          | normal => exact hk
          | exit id => exact absurd rfl (hex id)
          | ret => exact hk
        cases hres : resE T ρ' M' fn.results.toList with
        | none => rw [hres] at hk'; cases hk'
        | some vs =>
          rw [hres] at hk'
          simp only [force_eq, forceNs_eq] at hk'
          generalize reach M' 1000 ((retV vs).refs ++ fp0) [] = ids at hk'
          cases hi : closedN M' ids && subN (retV vs).refs ids && subN fp0 ids && ids.all (fun b => hasN b fp0 || (M b).isNone) with
          | false => rw [hi] at hk'; cases hk'
          | true =>
            rw [hi] at hk'
            simp only [cond_true, forceUp_eq] at hk'
            simp only [Bool.and_eq_true] at hi
            obtain ⟨⟨⟨i1, i2⟩, i3⟩, i4⟩ := hi
            rw [closedN_iff] at i1
            rw [subN_iff] at i2 i3
            have i4 : ∀ b ∈ ids, b ∈ fp0 ∨ M b = .none := fun b hb => by
              have := List.all_eq_true.1 i4 b hb
              rcases Bool.or_eq_true _ _ ▸ this with h | h
              · exact .inl (hasN_iff.1 h)
              · exact .inr (isNone_iff h)
            refine ⟨_, ⟨?_, ⟨fn, hf, by rw [hb]; rfl, hname f fn hf⟩, ?_⟩, hk'⟩
            · simp
            · intro M2 hM β Z w cargs hmem hargs
              have hMf : ∀ b ∈ fp0, M2 b = M b := fun b hb => hM b (i3 b hb)
              have hcl : ∀ b ∈ fp0, ∀ x ∈ (M2 b).refs, x ∈ fp0 := fun b hb => by rw [hMf b hb]; exact hc1 b hb
              have hent := hmem.enter hcl
              have honly : M2.only fp0 = M.only fp0 := by
                funext b
                by_cases hb : b ∈ fp0
                · rw [only_in hb, only_in hb, hMf b hb]
                · rw [only_out hb, only_out hb]
              have hargs' : RL β (M2.only fp0) Z w.heap args cargs := ⟨hargs.1, fun i x v hx hv => (hargs.2 i x v hx hv).keepRefs fun b hb => by
                have hlt : i < args.length := (List.getElem?_eq_some_iff.1 hx).1
                have hxi : args[i] = x := (List.getElem?_eq_some_iff.1 hx).2
                exact ⟨only_in (hc2 b (refsL_mem hlt (by rw [hxi]; exact hb))), rfl⟩⟩
              have hrel : Rel β (M.only fp0) Z fn.ntmps (paramsE args 0) { tmps := cargs.toArray ++ Array.replicate (fn.ntmps - cargs.toArray.size) undef, defers := [] } w := by
                rw [← honly]
                exact Rel.begin hent (by simpa using hargs') hc3
              refine calls_of_wp hf hb (hw (fun β' M' Z' w' => EvW β (M.only fp0) Z w β' M' Z' w') (fun h1 h2 => h1.trans h2) β Z _ w _ hrel (EvW.refl _ _ _ _) fun β' Z' a' w' hr' hev hd => ?_)
              obtain ⟨us, hus, hrl⟩ := resE_ok hT _ _ hres hr'
              have hrun : (results fn a'.tmps).run P w' = .ok (if h : us.toArray.size = 1 then us.toArray[0] else .tuple us.toArray) w' := by
                rw [results_eq, Sem.run_bind, Array.mapM_eq_mapM_toList, Sem.run_map, hus]
                rfl
              have hev2 : Ev β (M2.only fp0) Z w.heap β' M' Z' w'.heap := by rw [honly]; exact hev.toEv
              obtain ⟨l1, l2, l3⟩ := leave hmem hr'.mem hev2 i1 i3 (fun b hb => by
                rcases i4 b hb with h | h
                · exact .inl h
                · exact .inr ((hM b hb).trans h))
              have hpost : a'.defers = [] ∧ ∃ v, (results fn a'.tmps).run P w' = .ok v w' ∧ ∃ v' β' Z', (Ending.returned v) = .returned v' ∧ RV β' (M2.upds (ids.map fun b => (b, M' b))) Z' w'.heap (retV vs) v' ∧
                  RMem β' (M2.upds (ids.map fun b => (b, M' b))) Z' w'.heap ∧ EvW β M2 Z w β' (M2.upds (ids.map fun b => (b, M' b))) Z' w' := by
                refine ⟨hd, _, hrun, _, joinB β β' ids, Z', rfl, ?_, ?_, ?_⟩ <;> rw [upds_join]
                · exact l3 _ _ (retV_ok hrl) i2
                · exact l1
                · exact ⟨l2, hev.wd⟩
              cases ex with
              | normal => exact hpost
              | exit id => exact absurd rfl (hex id)
              | ret => exact hpost

def SpecOK (P : Program) {R : Type} (spec : FuncId → Option (List V → Mem → Nat → (Eff → Option R) → Option R)) : Prop :=
  ∀ f s, spec f = some s → ∀ args M id (c : Eff → Option R) r, s args M id c = some r → ∃ eff, CallOK P f args M eff ∧ c eff = some r

theorem callsE_ok (hT : TOK P T) (hm : P.follows .mixedOrders = true) (hname : ∀ (f : FuncId) fn, P.funcs[f]? = some fn → (fn.name == "runtime.NumGoroutine") = false)
    {spec : FuncId → Option (List V → Mem → Nat → (Eff → Option R) → Option R)} (hs : SpecOK P spec) : ∀ d, CallsOK P (callsE P T spec d)
  | 0 => fun f args M id c r h => by simp [callsE] at h
  | d + 1 => fun f args M id c r h => by
    simp only [callsE] at h
    cases hf : spec f with
    | some s => rw [hf] at h; exact hs f s hf _ _ _ _ _ h
    | none => rw [hf] at h; exact inlineE_ok hT hm hname (callsE_ok hT hm hname hs d) _ _ _ _ _ _ h

end
end Go.Pv
/-! ### Shapes: the live part of a frame as typed data; grabbed, and put down again with all else forgotten. -/
namespace Go.Pv

inductive VS where
  /-- a value of one cell -/
  | val (τ : Ty)
  | agg (τ : Ty)
  /-- a slice of a live row of its own: the whole of it -/
  | row (τ : Ty)
  /-- a pointer to a variable of its own -/
  | box (τ : Ty)

@[reducible] def VS.den : VS → Type
  | .val τ => τ.den
  | .agg τ => τ.den
  | .row τ => List τ.den
  | .box τ => τ.den

def decAll (τ : Ty) (cs : List V) : Option τ.den :=
  match dec τ cs with
  | some (x, []) => some x
  | _ => none

def VS.grab (M : Mem) : (s : VS) → V → Option (s.den × Option Nat)
  | .val τ, v => match decAll τ [v] with
    | some x => some (x, none)
    | none => none
  | .agg τ, v => match v with
    | .agg cs => match decAll τ cs with
      | some x => some (x, none)
      | none => none
    | _ => none
  | .row τ, v => match v with
    | .nils => some ([], none)
    | .sl b i m g => match M b with
      | .row τ' l g' false => if h : τ' = τ then (bif Nat.beq g g' && Nat.beq i 0 && m.isNone then some (h ▸ l, some b) else none) else none
      | _ => none
    | _ => none
  | .box τ, v => match v with
    | .ptr b i j _ => match M b with
      | .box cells => bif Nat.beq i 0 && Nat.beq j 0 then (match decAll τ cells with
        | some x => some (x, some b)
        | none => none) else none
      | _ => none
    | _ => none

def VS.v (k : Nat) : (s : VS) → s.den → V
  | .val τ, x => (enc τ x).headD .dead
  | .agg τ, x => .agg (enc τ x)
  | .row _, _ => .sl k 0 none 0
  | .box _, _ => .ptr k 0 0 0

def VS.blk : (s : VS) → s.den → Blk
  | .val _, _ => .none
  | .agg _, _ => .none
  | .row τ, l => .row τ l 0 false
  | .box τ, x => .box (enc τ x)

abbrev Shape := List (Nat × VS)

@[reducible] def Shape.den : Shape → Type
  | [] => Unit
  | s :: r => s.2.den × Shape.den r

def usedN (o : Option Nat) (used : List Nat) : Bool :=
  match o with
  | some b => hasN b used
  | none => false

def Shape.grab (ρ : Nat → V) (M : Mem) : (sh : Shape) → List Nat → Option sh.den
  | [], _ => some ()
  | s :: r, used => match s.2.grab M (ρ s.1) with
    | some (x, ob) => bif usedN ob used then none else match Shape.grab ρ M r (ob.toList ++ used) with
      | some y => some (x, y)
      | none => none
    | none => none

def Shape.putT : (sh : Shape) → Nat → sh.den → (Nat → V)
  | [], _, _ => fun _ => .dead
  | s :: r, k, x => setT (Shape.putT r (k + 1) x.2) s.1 (s.2.v k x.1)

def Shape.putM : (sh : Shape) → Nat → sh.den → Mem
  | [], _, _ => fun _ => .none
  | s :: r, k, x => (Shape.putM r (k + 1) x.2).upd k (s.2.blk x.1)

section
variable {β β' : Nat → Option Loc} {M M' : Mem} {Z : Nat → Prop} {h : Heap}

theorem decAll_ok {τ : Ty} {cs : List V} {vs : List Value} {x : τ.den} (hd : decAll τ cs = some x) (hr : RL β M Z h cs vs) : RD h Z τ x vs := by
  unfold decAll at hd
  split at hd
  · rename_i y hy
    cases hd
    obtain ⟨h1, h2⟩ := dec_ok hy hr
    have hl := h2.1
    simp at hl
    rwa [List.take_of_length_le (by omega)] at h1
  · cases hd

def locOf (β : Nat → Option Loc) (ob : Option Nat) : Option Loc :=
  match ob with
  | some b => β b
  | none => some .virt

/-- one slot -/
theorem VS.grab_ok (hm : RMem β M Z h) {s : VS} {v : V} {u : Value} {x : s.den} {ob : Option Nat} (hg : s.grab M v = some (x, ob)) (hv : RV β M Z h v u) {k : Nat}
    (hM : M' k = s.blk x) (hβ : β' k = locOf β ob) : RV β' M' Z h (s.v k x) u ∧ RB β' M' Z h k ∧
      ∀ cb, lies β' M' k cb → ∃ b, ob = some b ∧ (M b).own = true ∧ lies β M b cb := by
  cases s with
  | val τ =>
    simp only [VS.grab] at hg
    cases hd : decAll τ [v] with
    | none => rw [hd] at hg; cases hg
    | some y =>
      rw [hd] at hg; cases hg
      have h1 := decAll_ok hd (RL.cons hv RL.nil)
      have h2 := RL.of_RD (β := β') (M2 := M') h1
      refine ⟨?_, by unfold RB; rw [hM]; trivial, fun cb hl => ?_⟩
      · simp only [VS.v]
        cases he : enc τ x with
        | nil => exact .dead _
        | cons c r => rw [he] at h2; obtain ⟨w, ws, e1, e2, _⟩ := h2.cons_inv; cases e1; exact e2
      · rw [lies, hM] at hl; exact absurd rfl hl.1
  | agg τ =>
    simp only [VS.grab] at hg
    split at hg
    · rename_i cs
      cases hd : decAll τ cs with
      | none => rw [hd] at hg; cases hg
      | some y =>
        rw [hd] at hg; cases hg
        obtain ⟨vs, rfl, hl, hc⟩ := hv.agg_inv
        have h1 := decAll_ok hd (RL.of_arr hl hc)
        have h2 := RL.of_RD (β := β') (M2 := M') h1
        obtain ⟨e1, e2⟩ := RL.to_arr h2
        refine ⟨.agg _ _ e1 e2, by unfold RB; rw [hM]; trivial, fun cb hl => ?_⟩
        rw [lies, hM] at hl; exact absurd rfl hl.1
    · cases hg
  | row τ =>
    simp only [VS.grab] at hg
    split at hg
    · cases hg
      have := hv.nils_inv; subst this
      simp only [locOf] at hβ
      simp only [VS.blk] at hM
      refine ⟨.sl k 0 none 0 _ rfl (by rw [hM]; simp) fun g0 hg0 => ?_, by unfold RB; rw [hM]; exact .inl ⟨rfl, hβ⟩, fun cb hl => ?_⟩
      · rw [hM] at hg0; simp only [Blk.gen, Option.some.injEq] at hg0; subst hg0
        exact ⟨Nat.le_refl _, fun _ => .inl ⟨hβ, rfl, .inl rfl, rfl⟩⟩
      · rw [lies, hβ] at hl; simp [Loc.blk?] at hl
    · rename_i b i m g
      split at hg
      · rename_i τ' l g' hb
        split at hg
        · rename_i e
          subst e
          cases hq : Nat.beq g g' && Nat.beq i 0 && m.isNone with
          | false => rw [hq] at hg; cases hg
          | true =>
            rw [hq] at hg; cases hg
            simp only [Bool.and_eq_true] at hq
            have q1 := Nat.eq_of_beq_eq_true hq.1.1
            have q2 := Nat.eq_of_beq_eq_true hq.1.2
            have q3 : m = none := by cases m <;> simp_all
            subst q1; subst q2; subst q3
            simp only [locOf] at hβ
            simp only [VS.blk] at hM
            have hgen : (M b).gen = some g := by rw [hb]; rfl
            have hs := hv.sl_inv hgen
            have h1 : u.oneCell' = true := by cases hv; assumption
            have hrb := hm.blk b
            unfold RB at hrb
            rw [hb] at hrb
            simp only at hrb
            refine ⟨.sl k 0 none 0 _ h1 (by rw [hM]; simp) fun g0 hg0 => ?_, ?_, fun cb hl => ⟨b, rfl, by rw [hb]; rfl, ?_⟩⟩
            · rw [hM] at hg0; simp only [Blk.gen, Option.some.injEq] at hg0; subst hg0
              exact ⟨Nat.le_refl _, fun _ => hs.of_eq (by rw [hM, hb]; rfl) hβ⟩
            · unfold RB; rw [hM, hβ]; simp only
              exact hrb
            · rw [lies, hβ] at hl; exact ⟨by rw [hgen]; simp, hl.2⟩
        · cases hg
      · cases hg
    · cases hg
  | box τ =>
    simp only [VS.grab] at hg
    split at hg
    · rename_i b i j g
      split at hg
      · rename_i cells hb
        cases hq : Nat.beq i 0 && Nat.beq j 0 with
        | false => rw [hq] at hg; cases hg
        | true =>
          rw [hq] at hg
          simp only [cond_true] at hg
          cases hd : decAll τ cells with
          | none => rw [hd] at hg; cases hg
          | some y =>
            rw [hd] at hg; cases hg
            simp only [Bool.and_eq_true] at hq
            have q1 := Nat.eq_of_beq_eq_true hq.1
            have q2 := Nat.eq_of_beq_eq_true hq.2
            subst q1; subst q2
            simp only [locOf] at hβ
            simp only [VS.blk] at hM
            have hgen : (M b).gen = some 0 := by rw [hb]; rfl
            have h1 : u.oneCell' = true := by cases hv; assumption
            have hrb := hm.blk b
            unfold RB at hrb
            rw [hb] at hrb
            simp only at hrb
            obtain ⟨cb, T, c, r1, r2, r3, r4⟩ := hrb
            have hrd : RD h Z τ x c.toList := decAll_ok hd (RL.of_arr (by omega) r4)
            obtain ⟨e1, e2⟩ := RL.to_arr (RL.of_RD (β := β') (M2 := M') hrd)
            refine ⟨.ptr k 0 0 0 _ h1 (by rw [hM]; simp) fun g0 hg0 => ?_, ?_, fun cb hl => ⟨b, rfl, by rw [hb]; rfl, ?_⟩⟩
            · rw [hM] at hg0; simp only [Blk.gen, Option.some.injEq] at hg0; subst hg0
              have hp : PtrOk (M b) (β b) 0 0 u := by
                cases hv with | ptr _ _ _ _ _ _ _ hh => 
                obtain ⟨p1, p2⟩ := hh 0 hgen
                exact p2 (by omega)
              exact ⟨Nat.le_refl _, fun _ => hp.of_eq (by rw [hM, hb]; rfl) hβ⟩
            · unfold RB; rw [hM, hβ]; simp only
              exact ⟨cb, T, c, r1, r2, e1.symm, e2⟩
            · rw [lies, hβ] at hl; exact ⟨by rw [hgen]; simp, hl.2⟩
      · cases hg
    · cases hg

theorem putM_lt : ∀ (sh : Shape) (k : Nat) (x : sh.den) (j : Nat), j < k → Shape.putM sh k x j = .none
  | [], _, _, _, _ => rfl
  | s :: r, k, x, j, hj => by
    simp only [Shape.putM]
    rw [upd_ne _ _ (by omega)]
    exact putM_lt r (k + 1) x.2 j (by omega)

theorem Shape.grab_ok (hm : RMem β M Z h) {ρ : Nat → V} {tv : Nat → Value} (hρ : ∀ t, RV β M Z h (ρ t) (tv t)) :
    ∀ (sh : Shape) (used : List Nat) (k : Nat) (x : sh.den), Shape.grab ρ M sh used = some x → ∃ (β' : Nat → Option Loc) (φ : Nat → Option Nat),
      (∀ t, RV β' (Shape.putM sh k x) Z h (Shape.putT sh k x t) (tv t)) ∧ (∀ j, RB β' (Shape.putM sh k x) Z h j) ∧
      (∀ j cb, lies β' (Shape.putM sh k x) j cb → ∃ b, φ j = some b ∧ (M b).own = true ∧ lies β M b cb) ∧ (∀ j b, φ j = some b → b ∉ used) ∧ ∀ j j' b, φ j = some b → φ j' = some b → j = j'
  | [], used, k, x, _ => ⟨fun _ => none, fun _ => none, fun t => .dead _, fun j => by unfold RB Shape.putM; trivial, fun j cb hl => by exact absurd rfl hl.1, fun j b e => (by cases e), fun j j' b e _ => (by cases e)⟩
  | s :: r, used, k, x, hg => by
    simp only [Shape.grab] at hg
    cases h1 : s.2.grab M (ρ s.1) with
    | none => rw [h1] at hg; cases hg
    | some p =>
      obtain ⟨y, ob⟩ := p
      rw [h1] at hg
      simp only at hg
      cases hu : usedN ob used with
      | true => rw [hu] at hg; cases hg
      | false =>
        rw [hu] at hg
        simp only [cond_false] at hg
        cases h2 : Shape.grab ρ M r (ob.toList ++ used) with
        | none => rw [h2] at hg; cases hg
        | some z =>
          rw [h2] at hg
          cases hg
          obtain ⟨β1, φ1, a1, a2, a3, a4, a5⟩ := Shape.grab_ok hm hρ r (ob.toList ++ used) (k + 1) z h2
          let β2 : Nat → Option Loc := fun j => if j = k then locOf β ob else β1 j
          have hk : Shape.putM r (k + 1) z k = .none := putM_lt r (k + 1) z k (by omega)
          have hβk : β2 k = locOf β ob := if_pos rfl
          have hMk : (Shape.putM (s :: r) k (y, z)) k = s.2.blk y := by simp only [Shape.putM]; rw [upd_same]
          have hMo : ∀ j, j ≠ k → (Shape.putM (s :: r) k (y, z)) j = Shape.putM r (k + 1) z j := fun j hj => by simp only [Shape.putM]; rw [upd_ne _ _ hj]
          have hβo : ∀ j, j ≠ k → β2 j = β1 j := fun j hj => if_neg hj
          have gr : Grow β1 (Shape.putM r (k + 1) z) Z h β2 (Shape.putM (s :: r) k (y, z)) Z h := by
            refine ⟨fun _ _ => rfl, fun _ h => h, fun b hb => ?_, fun b hb hgn => ?_, fun b g hgn g' hg' => ?_⟩
            · rw [hMo b (fun e => hb (by rw [e]; exact hk))]; exact hb
            · rw [hMo b (fun e => hb (by rw [e]; exact hk))]; exact hgn
            · have hb : b ≠ k := fun e => by rw [e, hk] at hgn; cases hgn
              rw [hMo b hb] at hg' ⊢
              rw [hgn] at hg'; cases hg'
              exact ⟨Nat.le_refl _, fun _ => ⟨hβo b hb, rfl, rfl, rfl⟩⟩
          obtain ⟨b1, b2, b3⟩ := VS.grab_ok hm h1 (hρ s.1) (M' := Shape.putM (s :: r) k (y, z)) (β' := β2) hMk hβk
          have notin : ∀ b, ob = some b → b ∉ used := fun b e hin => by
            rw [e] at hu; simp only [usedN] at hu; exact hasN_not.1 hu hin
          let φ2 : Nat → Option Nat := fun j => if j = k then ob else φ1 j
          have hφk : φ2 k = ob := if_pos rfl
          have hφo : ∀ j, j ≠ k → φ2 j = φ1 j := fun j hj => if_neg hj
          refine ⟨β2, φ2, fun t => ?_, fun j => ?_, fun j cb hl => ?_, fun j b e => ?_, fun j j' b e e' => ?_⟩
          · simp only [Shape.putT]
            by_cases e : t = s.1
            · subst e; rw [setT_same]; exact b1
            · rw [setT_ne _ _ e]; exact (a1 t).mono gr
          · by_cases e : j = k
            · subst e; exact b2
            · exact (a2 j).keep gr (hMo j e) (fun _ => hβo j e) fun _ _ => rfl
          · by_cases e : j = k
            · subst e
              obtain ⟨b, q1, q2, q3⟩ := b3 cb hl
              exact ⟨b, hφk.trans q1, q2, q3⟩
            · obtain ⟨b, q1, q3, q4⟩ := a3 j cb (by unfold lies at *; rwa [hMo j e, hβo j e] at hl)
              exact ⟨b, (hφo j e).trans q1, q3, q4⟩
          · by_cases ek : j = k
            · subst ek; exact notin b (hφk.symm.trans e)
            · exact fun hin => a4 j b ((hφo j ek).symm.trans e) (List.mem_append_right _ hin)
          · by_cases ek : j = k
            · by_cases ek' : j' = k
              · rw [ek, ek']
              · subst ek
                have e1 := hφk.symm.trans e
                have e2 := (hφo j' ek').symm.trans e'
                exact absurd (List.mem_append_left _ (by rw [e1]; simp)) (a4 j' b e2)
            · by_cases ek' : j' = k
              · subst ek'
                have e1 := hφk.symm.trans e'
                have e2 := (hφo j ek).symm.trans e
                exact absurd (List.mem_append_left _ (by rw [e1]; simp)) (a4 j b e2)
              · exact a5 j j' b ((hφo j ek).symm.trans e) ((hφo j' ek').symm.trans e')

/-- grabbed and put down -/
theorem Shape.ok {nt : Nat} {ρ : Nat → V} {a : Act} {w : World} (hr : Rel β M Z nt ρ a w) {sh : Shape} {x : sh.den} (hg : Shape.grab ρ M sh [] = some x) (k : Nat) :
    ∃ β', Rel β' (Shape.putM sh k x) Z nt (Shape.putT sh k x) a w ∧ ∀ cb, owned β' (Shape.putM sh k x) cb → owned β M cb := by
  obtain ⟨β', φ, a1, a2, a3, a4, a5⟩ := Shape.grab_ok hr.mem hr.tmps sh [] k x hg
  refine ⟨β', ⟨a1, hr.size, a2, fun b b' cb ho hl hl' => ?_, fun cb hz ho => ?_, hr.mem.zlt⟩, fun cb ho => ?_⟩
  · obtain ⟨c, q1, q2, q3⟩ := a3 b cb hl
    obtain ⟨c', q1', q2', q3'⟩ := a3 b' cb hl'
    have := hr.mem.sep c c' cb q2 q3 q3'
    subst this
    exact a5 b b' c q1 q1'
  · obtain ⟨b, h1, h2⟩ := ho
    obtain ⟨c, q1, q2, q3⟩ := a3 b cb h2
    exact hr.mem.zown cb hz ⟨c, q2, q3⟩
  · obtain ⟨b, h1, h2⟩ := ho
    obtain ⟨c, q1, q2, q3⟩ := a3 b cb h2
    exact ⟨c, q2, q3⟩

end
end Go.Pv
/-! ### Loops over typed states. -/
namespace Go.Pv

/-! ### Where the rounds of a function lead -/
section
variable {X Y : Type}

def iter (S : X → Option (X ⊕ Y)) : Nat → X → Option Y
  | 0, _ => none
  | n + 1, x => match S x with
    | none => none
    | some (.inl x') => iter S n x'
    | some (.inr y) => some y

open Classical in
noncomputable def lim (S : X → Option (X ⊕ Y)) (x : X) : Option Y :=
  if h : ∃ y, ∃ n, iter S n x = some y then some (Classical.choose h) else none

variable {S : X → Option (X ⊕ Y)}

theorem iter_mono : ∀ {n m : Nat} {x : X} {y : Y}, iter S n x = some y → n ≤ m → iter S m x = some y
  | 0, _, _, _, h, _ => by cases h
  | n + 1, 0, _, _, _, h => by omega
  | n + 1, m + 1, x, y, h, hle => by
    simp only [iter] at h ⊢
    split at h
    · cases h
    · exact iter_mono h (by omega)
    · exact h

theorem iter_det {n m : Nat} {x : X} {y y' : Y} (h : iter S n x = some y) (h' : iter S m x = some y') : y = y' := by
  have h1 := iter_mono h (Nat.le_max_left n m)
  have h2 := iter_mono h' (Nat.le_max_right n m)
  rw [h1] at h2; cases h2; rfl

theorem lim_some {x : X} {y : Y} : lim S x = some y ↔ ∃ n, iter S n x = some y := by
  unfold lim
  constructor
  · intro h
    split at h
    · rename_i hh
      cases h
      exact Classical.choose_spec hh
    · cases h
  · rintro ⟨n, h⟩
    rw [dif_pos ⟨y, n, h⟩]
    obtain ⟨m, hm⟩ := Classical.choose_spec (⟨y, n, h⟩ : ∃ y, ∃ n, iter S n x = some y)
    rw [iter_det hm h]

theorem lim_next {x x' : X} (h : S x = some (.inl x')) : lim S x = lim S x' := by
  cases h' : lim S x' with
  | some y =>
    obtain ⟨n, hn⟩ := lim_some.1 h'
    exact lim_some.2 ⟨n + 1, by simp only [iter, h]; exact hn⟩
  | none =>
    cases h2 : lim S x with
    | none => rfl
    | some y =>
      obtain ⟨n, hn⟩ := lim_some.1 h2
      cases n with
      | zero => cases hn
      | succ n =>
        simp only [iter, h] at hn
        rw [lim_some.2 ⟨n, hn⟩] at h'; cases h'

theorem lim_end {x : X} {y : Y} (h : S x = some (.inr y)) : lim S x = some y := lim_some.2 ⟨1, by simp only [iter, h]⟩

end

/-! ### Loops -/
structure LoopSpec where
  id : Nat
  inv : Shape
  out : Shape
  ret : Shape

abbrev HookE (R : Type) := Code → Option ((Nat → V) → Mem → Nat → Kont R → Option R)

def stepE (T : TypeId → TT) (callE : (R : Type) → CallE R) (nt : Nat) (hook : (R : Type) → HookE R) (fuel : Nat) (ls : LoopSpec) (body : Code) (x : ls.inv.den) : Option (ls.inv.den ⊕ (ls.out.den ⊕ ls.ret.den)) :=
  codeE T (callE _) nt (hook _) fuel body (Shape.putT ls.inv 0 x) (Shape.putM ls.inv 0 x) ls.inv.length fun ex ρ M _ =>
    match ex with
    | .normal => match Shape.grab ρ M ls.inv [] with
      | some x => some (.inl x)
      | none => none
    | .exit id => bif Nat.beq id ls.id then (match Shape.grab ρ M ls.out [] with
      | some y => some (.inr (.inl y))
      | none => none) else none
    | .ret => match Shape.grab ρ M ls.ret [] with
      | some y => some (.inr (.inr y))
      | none => none

noncomputable def loopH {R : Type} (T : TypeId → TT) (callE : (R : Type) → CallE R) (nt : Nat) (hook : (R : Type) → HookE R) (fuel : Nat) (ls : LoopSpec) (body : Code) : (Nat → V) → Mem → Nat → Kont R → Option R := fun ρ M _ K =>
  match Shape.grab ρ M ls.inv [] with
  | none => none
  | some x => match lim (stepE T callE nt hook fuel ls body) x with
    | none => none
    | some (.inl y) => K .normal (Shape.putT ls.out 0 y) (Shape.putM ls.out 0 y) ls.out.length
    | some (.inr y) => K .ret (Shape.putT ls.ret 0 y) (Shape.putM ls.ret 0 y) ls.ret.length

def findSpec (id : Nat) : List LoopSpec → Option LoopSpec
  | [] => none
  | ls :: r => bif Nat.beq ls.id id then some ls else findSpec id r

noncomputable def loopHook (T : TypeId → TT) (callE : (R : Type) → CallE R) (nt : Nat) (fuel : Nat) (lss : List LoopSpec) : Nat → (R : Type) → HookE R
  | 0 => fun _ _ => none
  | n + 1 => fun _ code => match code with
    | .block id (.loop body) => match findSpec id lss with
      | some ls => some (loopH T callE nt (loopHook T callE nt fuel lss n) fuel ls body)
      | none => none
    | _ => none

/-- the body of the loop in block id -/
def loopBody (id : Nat) : Code → Option Code
  | .seq a b => match loopBody id a with
    | some c => some c
    | none => loopBody id b
  | .cond _ a b => match loopBody id a with
    | some c => some c
    | none => loopBody id b
  | .block i c => match c with
    | .loop body => bif Nat.beq i id then some body else loopBody id body
    | c => loopBody id c
  | .loop c => loopBody id c
  | _ => none

section
variable {P : Program} {T : TypeId → TT} {R : Type} {nt : Nat}

/-- what may be kept of a frame that forgets -/
def Say.Loose (J : Say) : Prop := J.Kept ∧ ∀ {β M Z w β' M'}, J β M Z w → (∀ cb, owned β' M' cb → owned β M cb) → J β' M' Z w

theorem stepE_ok (hT : TOK P T) (hm : P.follows .mixedOrders = true) {callE : (R : Type) → CallE R} (hcall : ∀ R, CallsOK P (callE R)) {hook : (R : Type) → HookE R} (hh : ∀ R, HookOK P nt Say.Loose (hook R))
    {fuel : Nat} {ls : LoopSpec} {body : Code} {Q : Exit → Act → World → Prop} {J : Say} (hJ : J.Loose) {y : ls.out.den ⊕ ls.ret.den} :
    ∀ (n : Nat) (x : ls.inv.den), iter (stepE T callE nt hook fuel ls body) n x = some y → ∀ (β : Nat → Option Loc) (Z : Nat → Prop) (a : Act) (w : World),
      Rel β (Shape.putM ls.inv 0 x) Z nt (Shape.putT ls.inv 0 x) a w → J β (Shape.putM ls.inv 0 x) Z w →
      (∀ β' Z' a' w', (match y with
        | .inl y => Rel β' (Shape.putM ls.out 0 y) Z' nt (Shape.putT ls.out 0 y) a' w' ∧ J β' (Shape.putM ls.out 0 y) Z' w'
        | .inr y => Rel β' (Shape.putM ls.ret 0 y) Z' nt (Shape.putT ls.ret 0 y) a' w' ∧ J β' (Shape.putM ls.ret 0 y) Z' w') → a'.defers = a.defers →
        match y with
        | .inl _ => Q .normal a' w'
        | .inr _ => Q .ret a' w') → Rounds P body (Exit.inBlock ls.id Q) n a w
  | 0, x, h => by cases h
  | n + 1, x, h => by
    intro β Z a w hr hj hQ
    simp only [iter] at h
    cases hs : stepE T callE nt hook fuel ls body x with
    | none => rw [hs] at h; cases h
    | some z =>
      rw [hs] at h
      obtain ⟨ex, ρ', M', nx', hk, hw⟩ := codeE_ok (𝒥 := Say.Loose) hT hm (hcall _) (fun J h => h.1) (hh _) fuel body _ _ _ _ _ hs
      refine hw J hJ β Z a w _ hr hj fun β' Z' a' w' hr' hj' hd => ?_
      cases ex with
      | normal =>
        simp only at hk
        cases hg : Shape.grab ρ' M' ls.inv [] with
        | none => rw [hg] at hk; cases hk
        | some x' =>
          rw [hg] at hk
          cases hk
          obtain ⟨β2, h1, h2⟩ := Shape.ok hr' hg 0
          exact stepE_ok hT hm hcall hh hJ n x' h β2 Z' a' w' h1 (hJ.2 hj' h2) fun β3 Z3 a3 w3 q1 q2 => hQ β3 Z3 a3 w3 q1 (q2.trans hd)
      | exit id =>
        simp only at hk
        cases hb : Nat.beq id ls.id with
        | false => rw [hb] at hk; cases hk
        | true =>
          rw [hb] at hk
          simp only [cond_true] at hk
          have := Nat.eq_of_beq_eq_true hb
          subst this
          cases hg : Shape.grab ρ' M' ls.out [] with
          | none => rw [hg] at hk; cases hk
          | some y' =>
            rw [hg] at hk
            cases hk
            simp only [Option.some.injEq] at h
            subst h
            obtain ⟨β2, h1, h2⟩ := Shape.ok hr' hg 0
            have := hQ β2 Z' a' w' ⟨h1, hJ.2 hj' h2⟩ hd
            simpa [Ex.out, Exit.then, Exit.inBlock] using this
      | ret =>
        simp only at hk
        cases hg : Shape.grab ρ' M' ls.ret [] with
        | none => rw [hg] at hk; cases hk
        | some y' =>
          rw [hg] at hk
          cases hk
          simp only [Option.some.injEq] at h
          subst h
          obtain ⟨β2, h1, h2⟩ := Shape.ok hr' hg 0
          have := hQ β2 Z' a' w' ⟨h1, hJ.2 hj' h2⟩ hd
          simpa [Ex.out, Exit.then, Exit.inBlock] using this

theorem loopH_ok (hT : TOK P T) (hm : P.follows .mixedOrders = true) {callE : (R : Type) → CallE R} (hcall : ∀ R, CallsOK P (callE R)) {hook : (R : Type) → HookE R} (hh : ∀ R, HookOK P nt Say.Loose (hook R))
    {fuel : Nat} {ls : LoopSpec} {body : Code} : CodeOK (R := R) P nt Say.Loose (.block ls.id (.loop body)) (loopH T callE nt hook fuel ls body) := by
  intro ρ M nx K r h
  unfold loopH at h
  cases hg : Shape.grab ρ M ls.inv [] with
  | none => rw [hg] at h; cases h
  | some x =>
    rw [hg] at h
    simp only at h
    cases hl : lim (stepE T callE nt hook fuel ls body) x with
    | none => rw [hl] at h; cases h
    | some y =>
      rw [hl] at h
      obtain ⟨n, hn⟩ := lim_some.1 hl
      cases y with
      | inl y =>
        refine ⟨_, _, _, _, h, fun J hJ β Z a w Q hr hj hQ => ?_⟩
        obtain ⟨β2, h1, h2⟩ := Shape.ok hr hg 0
        exact wp_block (wp_rounds (stepE_ok hT hm hcall hh hJ n x hn β2 Z a w h1 (hJ.2 hj h2) fun β' Z' a' w' q1 q2 => hQ β' Z' a' w' q1.1 q1.2 q2))
      | inr y =>
        refine ⟨_, _, _, _, h, fun J hJ β Z a w Q hr hj hQ => ?_⟩
        obtain ⟨β2, h1, h2⟩ := Shape.ok hr hg 0
        exact wp_block (wp_rounds (stepE_ok hT hm hcall hh hJ n x hn β2 Z a w h1 (hJ.2 hj h2) fun β' Z' a' w' q1 q2 => hQ β' Z' a' w' q1.1 q1.2 q2))

theorem findSpec_id : ∀ {lss : List LoopSpec} {id : Nat} {ls : LoopSpec}, findSpec id lss = some ls → ls.id = id
  | [], _, _, h => by cases h
  | l :: r, id, ls, h => by
    simp only [findSpec] at h
    cases hb : Nat.beq l.id id with
    | true => rw [hb] at h; cases h; exact Nat.eq_of_beq_eq_true hb
    | false => rw [hb] at h; exact findSpec_id h

theorem loopHook_ok (hT : TOK P T) (hm : P.follows .mixedOrders = true) {callE : (R : Type) → CallE R} (hcall : ∀ R, CallsOK P (callE R)) {fuel : Nat} {lss : List LoopSpec} :
    ∀ (n : Nat) (R : Type), HookOK P nt Say.Loose (loopHook T callE nt fuel lss n R)
  | 0, R => fun code h hh => by cases hh
  | n + 1, R => fun code h hh => by
    unfold loopHook at hh
    split at hh
    · rename_i id body
      cases hf : findSpec id lss with
      | none => rw [hf] at hh; cases hh
      | some ls =>
        rw [hf] at hh
        cases hh
        have := findSpec_id hf
        subst this
        exact loopH_ok hT hm hcall (loopHook_ok hT hm hcall n)
    · cases hh

end
end Go.Pv
/-! ### Functions by themselves: typed arguments, typed results; and what a caller is told of them. -/
namespace Go.Pv

def argsV : (sa : List VS) → (Shape.den (sa.map fun s => (0, s))) → List V
  | [], _ => []
  | s :: r, x => s.v 0 x.1 :: argsV r x.2

abbrev Sig := List VS
@[reducible] def Sig.den (sa : Sig) : Type := Shape.den (sa.map fun s => (0, s))

/-- results stand in a frame, from 0 on -/
def resShape : Nat → Sig → Shape
  | _, [] => []
  | i, s :: r => (i, s) :: resShape (i + 1) r

noncomputable section
def topE {R : Type} (P : Program) (T : TypeId → TT) (callE : (R : Type) → CallE R) (lss : List LoopSpec) (f : FuncId) (args : List V) (K : List V → Mem → Option R) : Option R :=
  match P.funcs[f]? with
  | none => none
  | some fn => match fn.body with
    | none => none
    | some code => bif Nat.ble args.length fn.ntmps then
        codeE T (callE R) fn.ntmps (loopHook T callE fn.ntmps 100000 lss 5 R) 100000 code (paramsE args 0) (fun _ => .none) 0 fun ex ρ M _ => match ex with
          | .exit _ => none
          | _ => match resE T ρ M fn.results.toList with
            | none => none
            | some vs => K vs M
      else none

def evalF (P : Program) (T : TypeId → TT) (callE : (R : Type) → CallE R) (lss : List LoopSpec) (f : FuncId) (sa sr : Sig) (x : sa.den) : Option (Shape.den (resShape 0 sr)) :=
  topE P T callE lss f (argsV sa x) fun vs M => Shape.grab (paramsE vs 0) M (resShape 0 sr) []
end

/-- since the call began: nothing old has changed -/
def Since (w0 : World) (Z0 : Nat → Prop) : Say := fun β M Z w =>
  (∀ cb, Z0 cb → Z cb) ∧ (∀ cb, Z cb → Z0 cb ∨ w0.heap.size ≤ cb) ∧ w0.heap.size ≤ w.heap.size ∧ (∀ cb, cb < w0.heap.size → w.heap[cb]? = w0.heap[cb]?) ∧
    (∀ cb, owned β M cb → w0.heap.size ≤ cb) ∧ Wd w0 w

theorem Since.loose (w0 : World) (Z0 : Nat → Prop) : (Since w0 Z0).Loose := by
  constructor
  · intro β M Z w β' M' Z' w' ⟨h1, h2, h3, h4, h5, h6⟩ ev
    refine ⟨fun cb hz => ev.zmono cb (h1 cb hz), fun cb hz => ?_, Nat.le_trans h3 ev.size, fun cb hlt => ?_, fun cb ho => ?_, h6.trans ev.wd⟩
    · rcases ev.znew cb hz with h | h | h
      · exact h2 cb h
      · exact .inr (Nat.le_trans h3 h)
      · exact .inr (h5 cb h)
    · rw [ev.frame cb (Nat.lt_of_lt_of_le hlt h3) (fun ho => by have := h5 cb ho; omega), h4 cb hlt]
    · rcases ev.own cb ho with h | h
      · exact Nat.le_trans h3 h
      · exact h5 cb h
  · intro β M Z w β' M' ⟨h1, h2, h3, h4, h5, h6⟩ ho
    exact ⟨h1, h2, h3, h4, fun cb h => h5 cb (ho cb h), h6⟩

def retVal (us : List Value) : Value := if h : us.toArray.size = 1 then us.toArray[0] else .tuple us.toArray

def ResCount (P : Program) (f : FuncId) (n : Nat) : Prop := ∀ fn, P.funcs[f]? = some fn → fn.results.size = n

section
variable {P : Program} {T : TypeId → TT}

theorem resE_length {ρ : Nat → V} {M : Mem} : ∀ {rs : List ResultVar} {vs : List V}, resE T ρ M rs = some vs → vs.length = rs.length
  | [], vs, h => by simp only [resE, Option.some.injEq] at h; subst h; rfl
  | .tmp t :: r, vs, h => by
    simp only [resE] at h
    cases h1 : resE T ρ M r with
    | none => rw [h1] at h; cases h
    | some vs' => rw [h1] at h; simp only [Option.some.injEq] at h; subst h; simp [resE_length h1]
  | .cell ad t :: r, vs, h => by
    simp only [resE] at h
    cases h0 : loadE T M t (ρ ad) (fun e => some e.val) with
    | none => rw [h0] at h; cases h
    | some v =>
      rw [h0] at h
      simp only at h
      cases h1 : resE T ρ M r with
      | none => rw [h1] at h; cases h
      | some vs' => rw [h1] at h; simp only [Option.some.injEq] at h; subst h; simp [resE_length h1]

theorem noneMem {β : Nat → Option Loc} {Z : Nat → Prop} {h : Heap} (hz : ZOk Z h) : RMem β (fun _ => .none) Z h :=
  ⟨fun b => by unfold RB; trivial, fun b b' cb ho _ _ => (by cases ho), fun cb _ ho => (by obtain ⟨b, ho, _⟩ := ho; cases ho), hz⟩

/-- a function by itself -/
theorem evalF_ok (hT : TOK P T) (hm : P.follows .mixedOrders = true) (hname : ∀ (f : FuncId) fn, P.funcs[f]? = some fn → (fn.name == "runtime.NumGoroutine") = false)
    {callE : (R : Type) → CallE R} (hcall : ∀ R, CallsOK P (callE R)) {lss : List LoopSpec} {f : FuncId} {sa sr : Sig} {x : sa.den} {y : Shape.den (resShape 0 sr)}
    (h : evalF P T callE lss f sa sr x = some y) : Callable P f ∧ ∀ (k : Nat) (β : Nat → Option Loc) (Z : Nat → Prop) (w : World) (cargs : List Value), ZOk Z w.heap →
      RL β (fun _ => .none) Z w.heap (argsV sa x) cargs →
      Calls P f cargs.toArray w fun e w' => ∃ us β' Z', e = .returned (retVal us) ∧ (∃ fn, P.funcs[f]? = some fn ∧ us.length = fn.results.size) ∧
        (∀ t, RV β' (Shape.putM (resShape 0 sr) k y) Z' w'.heap (Shape.putT (resShape 0 sr) k y t) (us.getD t undef)) ∧
        RMem β' (Shape.putM (resShape 0 sr) k y) Z' w'.heap ∧ Since w Z β' (Shape.putM (resShape 0 sr) k y) Z' w' := by
  unfold evalF topE at h
  cases hf : P.funcs[f]? with
  | none => rw [hf] at h; cases h
  | some fn =>
    rw [hf] at h
    simp only at h
    cases hb : fn.body with
    | none => rw [hb] at h; cases h
    | some code =>
      rw [hb] at h
      simp only at h
      cases hn : Nat.ble (argsV sa x).length fn.ntmps with
      | false => rw [hn] at h; cases h
      | true =>
        rw [hn] at h
        simp only [cond_true] at h
        have hn := Nat.le_of_ble_eq_true hn
        refine ⟨⟨fn, hf, by rw [hb]; rfl, hname f fn hf⟩, fun k β Z w cargs hz hargs => ?_⟩
        obtain ⟨ex, ρ', M', nx', hk, hw⟩ := codeE_ok (𝒥 := Say.Loose) hT hm (hcall _) (fun J h => h.1) (loopHook_ok (lss := lss) hT hm hcall 5 _) 100000 code _ _ _ _ _ h
        have hex : ∀ id, ex ≠ .exit id := fun id e => by subst e; cases hk
        have hk' : (match resE T ρ' M' fn.results.toList with
            | none => none
            | some vs => Shape.grab (paramsE vs 0) M' (resShape 0 sr) []) = some y := by
          cases ex with
          | normal => exact hk
          | exit id => exact absurd rfl (hex id)
          | ret => exact hk
        cases hres : resE T ρ' M' fn.results.toList with
        | none => rw [hres] at hk'; cases hk'
        | some vs =>
          rw [hres] at hk'
          simp only at hk'
          have hrel : Rel β (fun _ => .none) Z fn.ntmps (paramsE (argsV sa x) 0) { tmps := cargs.toArray ++ Array.replicate (fn.ntmps - cargs.toArray.size) undef, defers := [] } w :=
            Rel.begin (noneMem hz) (by simpa using hargs) hn
          have hs0 : Since w Z β (fun _ => .none) Z w := ⟨fun _ h => h, fun _ h => .inl h, Nat.le_refl _, fun _ _ => rfl, fun cb ho => (by obtain ⟨b, ho, _⟩ := ho; cases ho), Wd.refl _⟩
          refine calls_of_wp hf hb (hw (Since w Z) (Since.loose w Z) β Z _ w _ hrel hs0 fun β' Z' a' w' hr' hj' hd => ?_)
          obtain ⟨us, hus, hrl⟩ := resE_ok hT _ _ hres hr'
          have hrun : (results fn a'.tmps).run P w' = .ok (retVal us) w' := by
            rw [results_eq, Sem.run_bind, Array.mapM_eq_mapM_toList, Sem.run_map, hus]
            rfl
          have hrel2 : Rel β' M' Z' us.length (paramsE vs 0) { tmps := us.toArray, defers := [] } w' := by
            have := Rel.begin (n := us.length) hr'.mem (vs := us.toArray) (by simpa using hrl) (by rw [hrl.1]; exact Nat.le_refl _)
            simpa using this
          obtain ⟨β2, g1, g2⟩ := Shape.ok hrel2 hk' k
          have hlen : us.length = fn.results.size := by rw [← hrl.1, resE_length hres]; simp
          have hpost : a'.defers = [] ∧ ∃ v, (results fn a'.tmps).run P w' = .ok v w' ∧ ∃ us β' Z', (Ending.returned v) = .returned (retVal us) ∧ (∃ fn', some fn = some fn' ∧ us.length = fn'.results.size) ∧
              (∀ t, RV β' (Shape.putM (resShape 0 sr) k y) Z' w'.heap (Shape.putT (resShape 0 sr) k y t) (us.getD t undef)) ∧
              RMem β' (Shape.putM (resShape 0 sr) k y) Z' w'.heap ∧ Since w Z β' (Shape.putM (resShape 0 sr) k y) Z' w' := by
            refine ⟨hd, _, hrun, us, β2, Z', rfl, ⟨fn, rfl, hlen⟩, fun t => ?_, g1.mem, (Since.loose w Z).2 hj' g2⟩
            have := g1.tmps t
            simpa using this
          cases ex with
          | normal => exact hpost
          | exit id => exact absurd rfl (hex id)
          | ret => exact hpost

end
end Go.Pv
/-! ### What a caller is told of a function that is known by itself. -/
namespace Go.Pv

def Ty.flat : Ty → Bool
  | .slice _ => false
  | .pair a b => a.flat && b.flat
  | _ => true

def VS.flat : VS → Bool
  | .val τ => τ.flat
  | .agg τ => τ.flat
  | .row τ => τ.flat
  | .box τ => τ.flat

/-! ### Arguments: data, or live rows lent -/
def argG (M : Mem) : (s : VS) → V → Option (s.den × List Nat)
  | .val τ, v => match decAll τ [v] with
    | some x => some (x, [])
    | none => lend M τ v
  | .agg τ, v => match v with
    | .agg cs => match decAll τ cs with
      | some x => some (x, [])
      | none => none
    | _ => none
  | _, _ => none

def argsG (M : Mem) : (sa : Sig) → List V → Option (sa.den × List Nat)
  | [], [] => some ((), [])
  | s :: r, v :: vs => match argG M s v with
    | some (x, fp) => match argsG M r vs with
      | some (y, fp') => some ((x, y), fp ++ fp')
      | none => none
    | none => none
  | _, _ => none

def VS.ids : VS → Nat → List Nat
  | .row _, k => [k]
  | .box _, k => [k]
  | _, _ => []

def Shape.ids : Shape → Nat → List Nat
  | [], _ => []
  | s :: r, k => s.2.ids k ++ Shape.ids r (k + 1)

def resV : (i : Nat) → (sr : Sig) → Nat → Shape.den (resShape i sr) → List V
  | _, [], _, _ => []
  | i, s :: r, k, y => s.v k y.1 :: resV (i + 1) r (k + 1) y.2

def specE {R : Type} (sa sr : Sig) (F : sa.den → Option (Shape.den (resShape 0 sr))) : List V → Mem → Nat → (Eff → Option R) → Option R := fun args M id c =>
  match argsG M sa args with
  | none => none
  | some (x, fps) => match F x with
    | none => none
    | some y => forceN ((id + 1) * 100000) fun k => forceNs (Shape.ids (resShape 0 sr) k) fun ids =>
      bif ids.all (fun b => (M b).isNone) then c { val := retV (resV 0 sr k y), upd := ids.map fun b => (b, Shape.putM (resShape 0 sr) k y b), fp := ids ++ fps } else none

section
variable {P : Program} {β β' : Nat → Option Loc} {M M' : Mem} {Z Z' : Nat → Prop} {h h' : Heap}

theorem RD.anyZ : ∀ {τ : Ty} {x : τ.den} {cs : List Value}, τ.flat = true → RD h Z τ x cs → RD h Z' τ x cs
  | .unit, _, _, _, hh => hh
  | .bool, _, _, _, hh => hh
  | .str, _, _, _, hh => hh
  | .int _, _, _, _, hh => hh
  | .pair a b, x, cs, hf, hh => by
    simp only [Ty.flat, Bool.and_eq_true] at hf
    exact ⟨RD.anyZ hf.1 hh.1, RD.anyZ hf.2 hh.2⟩
  | .slice _, _, _, hf, _ => by cases hf

def V.plain : V → Bool
  | .dead => true
  | .bool _ => true
  | .int _ _ => true
  | .str _ => true
  | _ => false

theorem enc_plain : ∀ {τ : Ty} {x : τ.den}, τ.flat = true → ∀ c ∈ enc τ x, c.plain = true
  | .unit, _, _, c, hc => by simp [enc] at hc
  | .bool, _, _, c, hc => by simp [enc] at hc; subst hc; rfl
  | .str, _, _, c, hc => by simp [enc] at hc; subst hc; rfl
  | .int _, _, _, c, hc => by simp [enc] at hc; subst hc; rfl
  | .pair a b, x, hf, c, hc => by
    simp only [Ty.flat, Bool.and_eq_true] at hf
    simp only [enc, List.mem_append] at hc
    rcases hc with hc | hc
    · exact enc_plain hf.1 c hc
    · exact enc_plain hf.2 c hc
  | .slice _, _, hf, _, _ => by cases hf

theorem RV.plain {x : V} {v : Value} (r : RV β M Z h x v) (hp : x.plain = true) : RV β' M' Z' h' x v := by
  cases r with
  | dead v => exact .dead v
  | bool b => exact .bool b
  | int k n => exact .int k n
  | str s => exact .str s
  | _ => cases hp

theorem enc_refs : ∀ {τ : Ty} {x : τ.den}, refsL (enc τ x) = []
  | .unit, _ => rfl
  | .bool, _ => rfl
  | .str, _ => rfl
  | .int _, _ => rfl
  | .pair a b, x => by
    have happ : ∀ (l r : List V), refsL (l ++ r) = refsL l ++ refsL r := fun l r => by
      induction l with
      | nil => rfl
      | cons a l ih => simp only [List.cons_append, refsL, ih, List.append_assoc]
    simp only [enc, happ, enc_refs, List.append_nil]
  | .slice _, _ => rfl

/-- a flat slot, seen elsewhere -/
theorem VS.v_flat {s : VS} {k : Nat} {x : s.den} {u : Value} (hf : s.flat = true) (r : RV β M Z h (s.v k x) u) : RV β M Z' h (s.v k x) u := by
  cases s with
  | val τ =>
    simp only [VS.v] at r ⊢
    cases he : enc τ x with
    | nil => exact .dead _
    | cons c t => rw [he] at r; exact r.plain (enc_plain hf c (by rw [he]; simp))
  | agg τ =>
    obtain ⟨vs, rfl, hl, hc⟩ := r.agg_inv
    exact .agg _ _ hl fun i hi => (hc i hi).plain (enc_plain hf _ (List.getElem_mem hi))
  | row τ => cases r with | sl _ _ _ _ _ h1 hn hg => exact .sl _ _ _ _ _ h1 hn hg
  | box τ => cases r with | ptr _ _ _ _ _ h1 hn hg => exact .ptr _ _ _ _ _ h1 hn hg

theorem putM_slot : ∀ (sh : Shape) (k : Nat) (y : sh.den), (∀ s ∈ sh, s.2.flat = true) → ∀ b, (Shape.putM sh k y b = .none ∧ b ∉ Shape.ids sh k) ∨
    (b ∈ Shape.ids sh k ∧ ((∃ τ l, τ.flat = true ∧ Shape.putM sh k y b = .row τ l 0 false) ∨ ∃ τ x, τ.flat = true ∧ Shape.putM sh k y b = .box (enc τ x)))
  | [], _, _, _, b => .inl ⟨rfl, by simp [Shape.ids]⟩
  | s :: r, k, y, hf, b => by
    have hr := putM_slot r (k + 1) y.2 (fun s hs => hf s (by simp [hs])) b
    have hs := hf s (by simp)
    simp only [Shape.putM]
    by_cases e : b = k
    · subst e
      rw [upd_same]
      have hlt : ∀ (sh : Shape) (k b : Nat), b < k → b ∉ Shape.ids sh k := by
        intro sh
        induction sh with
        | nil => intro k b _; simp [Shape.ids]
        | cons s r ih =>
          intro k b hlt
          simp only [Shape.ids, List.mem_append, not_or]
          refine ⟨?_, ih (k + 1) b (by omega)⟩
          cases s.2 <;> simp [VS.ids] <;> omega
      have hno := hlt r (b + 1) b (by omega)
      obtain ⟨t, s⟩ := s
      cases s with
      | val τ => exact .inl ⟨rfl, by simp [Shape.ids, VS.ids, hno]⟩
      | agg τ => exact .inl ⟨rfl, by simp [Shape.ids, VS.ids, hno]⟩
      | row τ => exact .inr ⟨by simp [Shape.ids, VS.ids], .inl ⟨τ, y.1, hs, rfl⟩⟩
      | box τ => exact .inr ⟨by simp [Shape.ids, VS.ids], .inr ⟨τ, y.1, hs, rfl⟩⟩
    · rw [upd_ne _ _ e]
      rcases hr with ⟨h1, h2⟩ | ⟨h1, h2⟩
      · refine .inl ⟨h1, ?_⟩
        simp only [Shape.ids, List.mem_append, not_or]
        exact ⟨by cases s.2 <;> simp [VS.ids, e], h2⟩
      · exact .inr ⟨by simp only [Shape.ids, List.mem_append]; exact .inr h1, h2⟩

theorem RB.flat {b : Nat} (hs : (M b = .none) ∨ (∃ τ l, τ.flat = true ∧ M b = .row τ l 0 false) ∨ ∃ τ x, τ.flat = true ∧ M b = .box (enc τ x)) (r : RB β M Z h b) : RB β M Z' h b := by
  unfold RB at *
  rcases hs with e | ⟨τ, l, hf, e⟩ | ⟨τ, x, hf, e⟩
  · rw [e]; trivial
  · rw [e] at r ⊢
    simp only at r ⊢
    rcases r with r | ⟨cb, base, T, c, fz, e1, e2, e3, e4, e5, e6⟩
    · exact .inl r
    · exact .inr ⟨cb, base, T, c, fz, e1, e2, e3, e4, fun i x hx => (e5 i x hx).anyZ hf, by simp⟩
  · rw [e] at r ⊢
    simp only at r ⊢
    obtain ⟨cb, T, c, e1, e2, e3, e4⟩ := r
    exact ⟨cb, T, c, e1, e2, e3, fun i hi => (e4 i hi).plain (enc_plain hf _ (List.getElem_mem hi))⟩

end
end Go.Pv
