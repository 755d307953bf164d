/-
  append and copy.
-/
import Derived.Test.YtdfbjdchnkhiiaaDoorPvOk8
namespace Go.Pv
section
variable {P : Program} {T : TypeId → TT} {o : Oper} {ev : Operand → V} {M : Mem} {R : Type}
variable {β β' : Nat → Option Loc} {M2 : Mem} {Z : Nat → Prop} {h h' : Heap} {w : World}

/-- A row of one's own goes on elsewhere, or in place, in a new generation. -/
theorem gr_ev (hm : RMem β M2 Z h) {b : Nat} {k' : Blk} {loc' : Loc} (ho : (M2 b).own = true) (hg : ∃ g g', (M2 b).gen = some g ∧ k'.gen = some g' ∧ g < g')
    (hs : h.size ≤ h'.size) (hh : ∀ x, x < h.size → Loc.blk? (β b) ≠ some x → h'[x]? = h[x]?) (hloc : ∀ x, Loc.blk? (some loc') = some x → h.size ≤ x ∨ Loc.blk? (β b) = some x) :
    Ev β M2 Z h (updβ β b loc') (M2.upd b k') Z h' := by
  obtain ⟨g, g', hg1, hg2, hlt⟩ := hg
  have hgen : (M2 b).gen ≠ none := by rw [hg1]; simp
  have howned : ∀ x, Loc.blk? (β b) = some x → owned β M2 x := fun x hx => ⟨b, ho, hgen, hx⟩
  have hh' : ∀ x, x < h.size → ¬ owned β M2 x → h'[x]? = h[x]? := fun x hl hx => hh x hl fun e => hx (howned x e)
  refine { zkeep := fun x hz => hh' x (hm.zlt.lt x hz) (hm.zown x hz), zmono := fun _ h => h, nn := ?_, gone := ?_, gens := ?_, size := hs, frame := fun x hl hx => hh' x hl hx, own := ?_, znew := fun _ h => .inl h }
  · intro x hx
    by_cases e : x = b
    · rw [e, upd_same]; intro e2; rw [e2] at hg2; cases hg2
    · rw [upd_ne _ _ e]; exact hx
  · intro x hx hn
    by_cases e : x = b
    · rw [e] at hn; exact absurd hn hgen
    · rw [upd_ne _ _ e]; exact hn
  · intro x gx hx gx' hx'
    by_cases e : x = b
    · subst e
      rw [upd_same] at hx'
      rw [hg1] at hx; rw [hg2] at hx'
      cases hx; cases hx'
      exact ⟨by omega, fun e => by omega⟩
    · rw [upd_ne _ _ e] at hx' ⊢
      rw [hx] at hx'; cases hx'
      exact ⟨Nat.le_refl _, fun _ => ⟨updβ_ne _ _ e, rfl, rfl, rfl⟩⟩
  · rintro x ⟨y, h1, h2, h3⟩
    by_cases e : y = b
    · subst e
      rw [updβ_same] at h3
      rcases hloc x h3 with q | q
      · exact .inl q
      · exact .inr (howned x q)
    · rw [upd_ne _ _ e] at h1 h2
      rw [updβ_ne _ _ e] at h3
      exact .inr ⟨y, h1, h2, h3⟩

theorem gr_mem (hm : RMem β M2 Z h) {b : Nat} {k' : Blk} {loc' : Loc} (ho : (M2 b).own = true) (hg : ∃ g g', (M2 b).gen = some g ∧ k'.gen = some g' ∧ g < g')
    (hs : h.size ≤ h'.size) (hh : ∀ x, x < h.size → Loc.blk? (β b) ≠ some x → h'[x]? = h[x]?) (hloc : ∀ x, Loc.blk? (some loc') = some x → h.size ≤ x ∨ Loc.blk? (β b) = some x)
    (hb : RB (updβ β b loc') (M2.upd b k') Z h' b) : RMem (updβ β b loc') (M2.upd b k') Z h' := by
  have ev := gr_ev (k' := k') hm ho hg hs hh hloc
  have hgen : (M2 b).gen ≠ none := by obtain ⟨g, _, hg1, _⟩ := hg; rw [hg1]; simp
  have hold : ∀ {x cb : Nat}, x ≠ b → lies (updβ β b loc') (M2.upd b k') x cb → lies β M2 x cb := by
    intro x cb e hl
    unfold lies at *; rw [upd_ne _ _ e, updβ_ne _ _ e] at hl; exact hl
  have hnew : ∀ {cb : Nat}, lies (updβ β b loc') (M2.upd b k') b cb → h.size ≤ cb ∨ lies β M2 b cb := by
    rintro cb ⟨_, h3⟩
    rw [updβ_same] at h3
    rcases hloc cb h3 with q | q
    · exact .inl q
    · exact .inr ⟨hgen, q⟩
  refine ⟨fun x => ?_, ?_, ?_, hm.zlt.mono ev.zkeep (fun _ h => h) fun cb hz => Nat.lt_of_lt_of_le (hm.zlt.lt cb hz) hs⟩
  · by_cases e : x = b
    · rw [e]; exact hb
    · refine (hm.blk x).keep ev.toGrow (upd_ne _ _ e) (fun _ => updβ_ne _ _ e) fun cb hlx => hh cb (lies_lt (hm.blk x) hlx) fun e2 => e ?_
      exact (hm.sep b x cb ho ⟨hgen, e2⟩ hlx).symm
  · intro x x' cb hox hlx hlx'
    by_cases e : x = b
    · by_cases e' : x' = b
      · rw [e, e']
      · exfalso
        rw [e] at hlx
        rcases hnew hlx with q | q
        · have := lies_lt (hm.blk x') (hold e' hlx'); omega
        · exact e' (hm.sep b x' cb ho q (hold e' hlx')).symm
    · by_cases e' : x' = b
      · exfalso
        rw [e'] at hlx'
        rw [upd_ne _ _ e] at hox
        rcases hnew hlx' with q | q
        · have := lies_lt (hm.blk x) (hold e hlx); omega
        · exact e (hm.sep x b cb hox (hold e hlx) q)
      · rw [upd_ne _ _ e] at hox
        exact hm.sep x x' cb hox (hold e hlx) (hold e' hlx')
  · intro cb hz hown
    rcases ev.own cb hown with q | q
    · have := hm.zlt.lt cb hz; omega
    · exact hm.zown cb hz q

/-! ### What append and copy read -/
theorem RD.flat : ∀ {τ : Ty} {x : τ.den} {cs : List Value}, RD h Z τ x cs → ∀ u ∈ cs, u.oneCell' = true
  | .unit, _, cs, hh, u, hu => by simp only [RD] at hh; subst hh; simp at hu
  | .bool, _, cs, hh, u, hu => by simp only [RD] at hh; subst hh; simp at hu; subst hu; rfl
  | .str, _, cs, hh, u, hu => by simp only [RD] at hh; subst hh; simp at hu; subst hu; rfl
  | .int _, _, cs, hh, u, hu => by simp only [RD] at hh; subst hh; simp at hu; subst hu; rfl
  | .pair a b, x, cs, hh, u, hu => by
    rw [← List.take_append_drop a.size cs] at hu
    rcases List.mem_append.1 hu with q | q
    · exact RD.flat hh.1 u q
    · exact RD.flat hh.2 u q
  | .slice e, l, cs, hh, u, hu => by
    simp only [RD] at hh
    rcases hh with ⟨h1, _⟩ | ⟨_, _, _, _, _, _, h1, _⟩ <;> subst h1 <;> simp at hu <;> subst hu <;> rfl

/-- cells that hold the data of a list, element by element -/
def Rows (h : Heap) (Z : Nat → Prop) (τ : Ty) (l : List τ.den) (cs : List Value) : Prop :=
  cs.length = l.length * τ.size ∧ ∀ i x, l[i]? = some x → RD h Z τ x ((cs.drop (i * τ.size)).take τ.size)

theorem Rows.flat {τ : Ty} {l : List τ.den} {cs : List Value} (r : Rows h Z τ l cs) (hs : 0 < τ.size) : ∀ u ∈ cs, u.oneCell' = true := by
  intro u hu
  obtain ⟨k, hk, rfl⟩ := List.getElem_of_mem hu
  have hlt : k / τ.size < l.length := by
    rw [Nat.div_lt_iff_lt_mul hs, ← r.1]; exact hk
  have hd := r.2 (k / τ.size) l[k / τ.size] (by simp [hlt])
  refine hd.flat _ ?_
  have hdm := Nat.div_add_mod k τ.size
  have hml := Nat.mod_lt k hs
  have e : ((cs.drop (k / τ.size * τ.size)).take τ.size)[k % τ.size]? = some cs[k] := by
    rw [List.getElem?_take, if_pos hml, List.getElem?_drop]
    rw [show k / τ.size * τ.size + k % τ.size = k from by rw [Nat.mul_comm]; exact hdm]
    simp [hk]
  exact List.mem_of_getElem? e

theorem Rows.nil {τ : Ty} : Rows h Z τ [] [] := ⟨by simp, fun i x hx => by simp at hx⟩

theorem Rows.append {τ : Ty} {l1 l2 : List τ.den} {c1 c2 : List Value} (h1 : Rows h Z τ l1 c1) (h2 : Rows h Z τ l2 c2) : Rows h Z τ (l1 ++ l2) (c1 ++ c2) := by
  refine ⟨by simp [h1.1, h2.1, Nat.add_mul], fun i x hx => ?_⟩
  by_cases hi : i < l1.length
  · rw [List.getElem?_append_left hi] at hx
    have := h1.2 i x hx
    have hle := mul_le_of_lt (e := τ.size) hi
    have hl := h1.1
    rw [List.drop_append_of_le_length (by omega), List.take_append_of_le_length (by simp; omega)]
    exact this
  · rw [List.getElem?_append_right (by omega)] at hx
    have := h2.2 _ x hx
    have hl := h1.1
    have e : i * τ.size = c1.length + (i - l1.length) * τ.size := by
      rw [hl, ← Nat.add_mul]; congr 1; omega
    rw [e, List.drop_append, List.drop_of_length_le (by omega), List.nil_append, Nat.add_sub_cancel_left]
    exact this

theorem Rows.mono {τ : Ty} {l : List τ.den} {cs : List Value} {Z' : Nat → Prop} (hk : ∀ cb, Z cb → h'[cb]? = h[cb]?) (hz : ∀ cb, Z cb → Z' cb) (r : Rows h Z τ l cs) : Rows h' Z' τ l cs :=
  ⟨r.1, fun i x hx => (r.2 i x hx).mono hk hz⟩

/-- a part of rows -/
theorem Rows.cut {τ : Ty} {l : List τ.den} {cs : List Value} (r : Rows h Z τ l cs) (i n : Nat) (hn : i + n ≤ l.length) : Rows h Z τ ((l.drop i).take n) ((cs.drop (i * τ.size)).take (n * τ.size)) := by
  have hl := r.1
  have hmul : (i + n) * τ.size ≤ l.length * τ.size := Nat.mul_le_mul_right _ hn
  rw [Nat.add_mul] at hmul
  refine ⟨by simp; rw [Nat.min_eq_left (by omega), Nat.min_eq_left (by omega)], fun k x hx => ?_⟩
  rw [List.getElem?_take] at hx
  split at hx
  · rename_i hk
    rw [List.getElem?_drop] at hx
    have := r.2 _ x hx
    have hle := mul_le_of_lt (e := τ.size) hk
    rw [List.drop_take, List.take_take, Nat.min_eq_left (by omega), List.drop_drop, ← Nat.add_mul]
    exact this
  · cases hx

/-- the rows of a block -/
theorem rows_of {τ : Ty} {l : List τ.den} {c : Array Value} {base : Nat} (hfit : base + l.length * τ.size ≤ c.size) (hr : ∀ i x, l[i]? = some x → RD h Z τ x ((c.toList.drop (base + i * τ.size)).take τ.size)) :
    Rows h Z τ l ((c.toList.drop base).take (l.length * τ.size)) := by
  refine ⟨by simp; omega, fun i x hx => ?_⟩
  have hi : i < l.length := (List.getElem?_eq_some_iff.1 hx).1
  have hle := mul_le_of_lt (e := τ.size) hi
  rw [List.drop_take, List.take_take, Nat.min_eq_left (by omega), List.drop_drop]
  exact hr i x hx

theorem loadCells_at {cb off n : Nat} {c : Array Value} {Te : TypeId} {fz : Nat × Nat} (hc : w.heap[cb]? = some (.cells c Te fz)) (hs : off + n ≤ c.size) :
    (loadCells ⟨cb, off, none⟩ n).run P w = .ok ((c.toList.drop off).take n).toArray w := by
  have hl : ((c.toList.drop off).take n).length = n := by simp; omega
  have := run_loadCells_list (P := P) w ⟨cb, off, none⟩ ((c.toList.drop off).take n) (fun j v hj => by
    rw [addr_add, cell_of hc]
    rw [List.getElem?_take] at hj
    split at hj
    · simpa using hj
    · cases hj)
  rwa [hl] at this

/-- what a slice's elements are, and that they can be read -/
def Reads (P : Program) (h : Heap) (Z : Nat → Prop) (τ : Ty) (v : Value) (ys : List τ.den) (news : List Value) : Prop :=
  (∃ a cap, v = .slice a ys.length cap) ∧ Rows h Z τ ys news ∧ ∀ w : World, w.heap = h → (Builtin.firstCells τ.size ys.length v).run P w = .ok news.toArray w

theorem reads_nil {τ : Ty} : Reads P h Z τ (.slice none 0 0) [] [] := ⟨⟨none, 0, rfl⟩, Rows.nil, fun w _ => by simp [Builtin.firstCells]⟩

theorem reads_sl (hm : RMem β M2 Z h) {b i : Nat} {m : Option Nat} {τ : Ty} {l : List τ.den} {g : Nat} {ro : Bool} (hb : M2 b = .row τ l g ro) {v : Value} (s : SlOk (M2 b) (β b) i m v) :
    ∃ news, Reads P h Z τ v (Go.Pv.cut l i m) news := by
  rcases s with ⟨e0, rfl, e1, rfl⟩ | ⟨cb, base, sz, top, off, len, cap, f1, rfl, f3, f4, f5, f6, f7⟩
  · rcases hm.row hb with ⟨rfl, _⟩ | ⟨_, _, _, _, _, g1, _⟩
    · rcases e1 with rfl | rfl <;> exact ⟨[], by simpa [Go.Pv.cut] using reads_nil⟩
    · rw [e0] at g1; cases g1
  · rcases hm.row hb with ⟨_, g1⟩ | ⟨cb', base', Te, c', fz', g1, g2, g3, g4, g5, g6⟩
    · rw [f1] at g1; cases g1
    · rw [f1] at g1
      simp only [Option.some.injEq, Loc.at.injEq] at g1
      obtain ⟨rfl, rfl, rfl, rfl⟩ := g1
      have hcut : Go.Pv.cut l i m = (l.drop i).take len ∧ i + len ≤ l.length := by
        cases m with
        | none => simp only [hb, Blk.cnt] at f7; simp only [Go.Pv.cut]; exact ⟨by rw [List.take_of_length_le (by simp; omega)], by omega⟩
        | some m => simp only [hb, Blk.cnt] at f7; simp only [Go.Pv.cut]; exact ⟨by rw [f7.1], by omega⟩
      have hlen : (Go.Pv.cut l i m).length = len := by rw [hcut.1]; simp; omega
      have hrows := (rows_of g4 g5).cut i len hcut.2
      rw [← hcut.1] at hrows
      have hmul : (i + len) * τ.size ≤ l.length * τ.size := Nat.mul_le_mul_right _ hcut.2
      rw [Nat.add_mul] at hmul
      rw [List.drop_take, List.take_take, Nat.min_eq_left (by omega), List.drop_drop] at hrows
      refine ⟨_, ⟨_, cap, by rw [hlen]⟩, hrows, fun w hw => ?_⟩
      rw [hlen]
      simp only [Builtin.firstCells]
      by_cases h0 : len = 0
      · subst h0
        simp [loadCells, loadCellsFrom]
      · rw [f3 (by omega)]
        exact loadCells_at (by rw [hw]; exact g2) (by omega)

theorem reads_fz {τ : Ty} {l : List τ.den} {v : Value} (hd : RD h Z (.slice τ) l [v]) : ∃ news, Reads P h Z τ v l news := by
  simp only [RD] at hd
  rcases hd with ⟨e1, rfl⟩ | ⟨cb, off, cap, c', Te, fz', e1, e2, e3, e4, e5, e6⟩
  · simp only [List.cons.injEq, and_true] at e1; subst e1; exact ⟨[], reads_nil⟩
  · simp only [List.cons.injEq, and_true] at e1; subst e1
    exact ⟨_, ⟨_, cap, rfl⟩, rows_of e5 e6, fun w hw => by simp only [Builtin.firstCells]; exact loadCells_at (by rw [hw]; exact e4) (by omega)⟩

theorem RL.seg {cs : List V} {vs : List Value} (r : RL β M2 Z h cs vs) (j n : Nat) : RL β M2 Z h ((cs.drop j).take n) ((vs.drop j).take n) := by
  refine ⟨by simp [r.1], fun i v u hv hu => ?_⟩
  rw [List.getElem?_take] at hv hu
  split at hv
  · rename_i hi
    rw [if_pos hi] at hu
    rw [List.getElem?_drop] at hv hu
    exact r.2 _ _ _ hv hu
  · cases hv

theorem elems_spec {τ : Ty} {x : V} {ys : List τ.den} {fp : List Nat} (he : elems M τ x = some (ys, fp)) (hM : ∀ b ∈ fp, M2 b = M b) (hm : RMem β M2 Z h) {v : Value} (r : RV β M2 Z h x v) :
    ∃ news, Reads P h Z τ v ys news := by
  cases x <;> simp only [elems, reduceCtorEq] at he
  case nils => simp only [Option.some.injEq, Prod.mk.injEq] at he; obtain ⟨rfl, rfl⟩ := he; rw [r.nils_inv]; exact ⟨[], reads_nil⟩
  case sl b i m g =>
    cases hb : M b <;> simp only [hb, reduceCtorEq] at he
    rename_i τ' l g' ro
    cases hq : Nat.beq g g' with
    | false => rw [hq] at he; cases he
    | true =>
      rw [hq] at he
      have q1 := Nat.eq_of_beq_eq_true hq
      subst q1
      simp only [cond_true] at he
      split at he
      · rename_i e
        subst e
        simp only [Option.some.injEq, Prod.mk.injEq] at he
        obtain ⟨rfl, rfl⟩ := he
        have hb2 : M2 b = .row τ' l g ro := by rw [hM b (by simp)]; exact hb
        exact reads_sl hm hb2 (r.sl_inv (by simp [hb2, Blk.gen]))
      · cases he
  case fz τ' l =>
    split at he
    · rename_i e
      subst e
      simp only [Option.some.injEq, Prod.mk.injEq] at he
      obtain ⟨rfl, rfl⟩ := he
      exact reads_fz r.fz_inv
    · cases he
  case sb b j s n =>
    cases hb : M b <;> simp only [hb, reduceCtorEq] at he
    rename_i cells
    cases hq : Nat.beq s τ.size && Nat.ble (j + n * s) cells.length with
    | false => rw [hq] at he; cases he
    | true =>
      rw [hq] at he
      simp only [cond_true] at he
      simp only [Bool.and_eq_true] at hq
      have q1 := Nat.eq_of_beq_eq_true hq.1
      have q2 := Nat.le_of_ble_eq_true hq.2
      subst q1
      split at he
      · rename_i l hd
        simp only [Option.some.injEq, Prod.mk.injEq] at he
        obtain ⟨rfl, rfl⟩ := he
        have hb2 : M2 b = .box cells := by rw [hM b (by simp)]; exact hb
        obtain ⟨_, _, cb, base, sz, top, cap, f1, f2, f3, f4⟩ := r.sb_inv (by rw [hb2]; rfl)
        obtain ⟨cb', Te, cc, g1, g2, g3⟩ := hm.box hb2
        rw [f1] at g1
        simp only [Option.some.injEq, Loc.at.injEq] at g1
        obtain ⟨rfl, rfl, rfl, rfl⟩ := g1
        have hcl : cells.length = cc.size := by have := g3.1; simpa using this
        have hd2 := decN_ok hd (g3.seg j (n * τ.size))
        refine ⟨_, ⟨_, cap, by rw [f2, hd2.1]⟩, ⟨by rw [hd2.1]; simp; omega, hd2.2⟩, fun w hw => ?_⟩
        rw [f2, hd2.1, Nat.zero_add]
        simp only [Builtin.firstCells]
        exact loadCells_at (by rw [hw]; exact g2) (by omega)
      · cases he

/-! ### append, run -/
theorem append_room {t t2 e e2 : TypeId} {i : TypeInfo} {ts : Array TypeId} {ty : TypeId} {args : Array Value} (h0 : ts[0]? = some t) (h1 : ts[1]? = some t2) (ht : P.underlying t = some (.slice e)) (ht2 : P.underlying t2 = some (.slice e2)) (hi : P.info? e = some i)
    {base : Option Addr} {sLen sCap n c : Nat} {a : Option Addr} {news : Array Value} (hv : args[1]? = some (.slice a n c)) (hs : args[0]? = some (.slice base sLen sCap)) (hf : (Builtin.firstCells i.size n (.slice a n c)).run P w = .ok news w) (hroom : sLen + n ≤ sCap) :
    (Builtin.append_ ts ty args).run P w = match base with
      | some b => ((storeCells (b.add (sLen * i.size)) news.toList).run P w).andThen fun _ w' => .ok (.slice base (sLen + n) sCap) w'
      | none => .ok (.slice base (sLen + n) sCap) w := by
  unfold Builtin.append_
  simp only [h0, h1, hs, hv, Sem.run_bind, run_underlying ht, run_underlying ht2, Result.andThen_ok, run_sizeOf' hi, Sem.run_pure, Bool.false_eq_true, if_false, Builtin.lenOf]
  rw [if_pos hroom]
  cases base <;> simp [hf]

theorem append_grow {t t2 e e2 : TypeId} {i : TypeInfo} {z : Value} {ts : Array TypeId} {ty : TypeId} {args : Array Value} (h0 : ts[0]? = some t) (h1 : ts[1]? = some t2) (ht : P.underlying t = some (.slice e)) (ht2 : P.underlying t2 = some (.slice e2)) (hi : P.info? e = some i) (hz : i.zero = some z)
    {base : Option Addr} {sLen sCap n c : Nat} {a : Option Addr} {news olds : Array Value} (hs : args[0]? = some (.slice base sLen sCap)) (hv : args[1]? = some (.slice a n c))
    (hf : ∀ w' : World, w'.heap = w.heap → (Builtin.firstCells i.size n (.slice a n c)).run P w' = .ok news w')
    (hfo : ∀ w' : World, w'.heap = w.heap → (Builtin.firstCells i.size sLen (.slice base sLen sCap)).run P w' = .ok olds w')
    (hg : sCap < sLen + n) (h63 : ((sLen + n : Nat) : Int) ≤ 9223372036854775807) (hfit : Builtin.nextslicecap (sLen + n) sCap * i.bytes ≤ 281474976710656) :
    (Builtin.append_ ts ty args).run P w = .ok (.slice (some ⟨w.heap.size, 0, none⟩) (sLen + n) (grownCap w (sLen + n) sCap e))
        (w.drew.alloc (.cells (olds ++ news ++ Builtin.zeroCells z.cells (grownCap w (sLen + n) sCap e - (sLen + n))) e)) := by
  have hn : ¬ (sLen + n ≤ sCap) := by omega
  have h63' : ¬ (((sLen + n : Nat) : Int) > IntKind.i64.max) := by
    have : IntKind.i64.max = 9223372036854775807 := by decide
    rw [this]; omega
  have h48' : ¬ (Builtin.nextslicecap (sLen + n) sCap * i.bytes > 2 ^ 48) := by omega
  have e1 := hf w.drew rfl
  have e2 := hfo w.drew rfl
  unfold Builtin.append_
  simp only [h0, h1, hs, hv, Sem.run_bind, run_underlying ht, run_underlying ht2, Result.andThen_ok, run_sizeOf' hi, Sem.run_pure, Bool.false_eq_true, if_false, Builtin.lenOf]
  rw [if_neg hn]
  simp only [Sem.run_bind, run_typeInfo _ hi, Result.andThen_ok, Sem.run_ite]
  rw [if_neg (by intro hh; exact h63' hh.1)]
  simp only [Sem.run_pure]
  rw [if_neg h48']
  simp only [Sem.run_pure, Result.andThen_ok, run_choose_drew, Question.forced, Bool.false_eq_true, if_false, run_askRoom, e2, run_zeroValue' hi hz, newRow, Sem.run_bind, run_newObj_alloc, Bool.not_false, if_true, e1]
  rfl

end
end Go.Pv
