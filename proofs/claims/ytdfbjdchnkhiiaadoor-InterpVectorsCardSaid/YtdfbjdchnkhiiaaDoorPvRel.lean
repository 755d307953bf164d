/-
  How abstract values and blocks stand for the model's values and memory; what is kept when memory grows or changes.
-/
import Derived.Test.YtdfbjdchnkhiiaaDoorPvGlob
namespace Go.Pv

inductive Loc where
  | virt
  /-- block cb, from cell base on, elements of sz cells, top cells in all -/
  | at (cb base sz top : Nat)

abbrev Heap := Array Obj

/-- Data read from cells. -/
def RD (h : Heap) (Z : Nat → Prop) : (τ : Ty) → τ.den → List Value → Prop
  | .unit, _, cs => cs = []
  | .bool, b, cs => cs = [.bool b]
  | .str, s, cs => cs = [.string s]
  | .int k, n, cs => cs = [.int k n]
  | .pair a b, x, cs => RD h Z a x.1 (cs.take a.size) ∧ RD h Z b x.2 (cs.drop a.size)
  | .slice e, l, cs =>
    (cs = [.slice none 0 0] ∧ l = []) ∨
    ∃ cb off cap c T fz, cs = [.slice (some ⟨cb, off, none⟩) l.length cap] ∧ l.length ≤ cap ∧ Z cb ∧ h[cb]? = some (.cells c T fz) ∧
      off + l.length * e.size ≤ c.size ∧ ∀ i x, l[i]? = some x → RD h Z e x ((c.toList.drop (off + i * e.size)).take e.size)

theorem RD.length {h : Heap} {Z : Nat → Prop} : ∀ {τ : Ty} {x : τ.den} {cs : List Value}, RD h Z τ x cs → cs.length = τ.size
  | .unit, _, cs, hh => by simp only [RD] at hh; subst hh; rfl
  | .bool, _, cs, hh => by simp only [RD] at hh; subst hh; rfl
  | .str, _, cs, hh => by simp only [RD] at hh; subst hh; rfl
  | .int _, _, cs, hh => by simp only [RD] at hh; subst hh; rfl
  | .pair a b, x, cs, hh => by
    obtain ⟨h1, h2⟩ := hh
    have e1 := RD.length h1
    have e2 := RD.length h2
    simp only [List.length_take, List.length_drop] at e1 e2
    simp only [Ty.size]; omega
  | .slice e, l, cs, hh => by
    simp only [RD] at hh
    rcases hh with ⟨h1, _⟩ | ⟨_, _, _, _, _, _, h1, _⟩ <;> subst h1 <;> rfl

theorem RD.mono {h h' : Heap} {Z Z' : Nat → Prop} (hk : ∀ cb, Z cb → h'[cb]? = h[cb]?) (hz : ∀ cb, Z cb → Z' cb) :
    ∀ {τ : Ty} {x : τ.den} {cs : List Value}, RD h Z τ x cs → RD h' Z' τ x cs
  | .unit, _, _, hh => hh
  | .bool, _, _, hh => hh
  | .str, _, _, hh => hh
  | .int _, _, _, hh => hh
  | .pair a b, x, cs, hh => ⟨RD.mono hk hz hh.1, RD.mono hk hz hh.2⟩
  | .slice e, l, cs, hh => by
    simp only [RD] at hh ⊢
    rcases hh with h1 | ⟨cb, off, cap, c, T, fz, h1, h2, h3, h4, h5, h6⟩
    · exact .inl h1
    · exact .inr ⟨cb, off, cap, c, T, fz, h1, h2, hz _ h3, by rw [hk _ h3]; exact h4, h5, fun i x hx => RD.mono hk hz (h6 i x hx)⟩

def Blk.isBox : Blk → Bool
  | .box _ => true
  | _ => false

/-- how many elements a pointer can choose from -/
def Blk.cnt : Blk → Nat
  | .box _ => 1
  | .row _ l _ _ => l.length
  | _ => 0

def PtrOk (k : Blk) (loc : Option Loc) (i j : Nat) (v : Value) : Prop :=
  i < k.cnt ∧ ∃ cb base sz top, loc = some (.at cb base sz top) ∧ v = .pointer (some ⟨cb, base + i * sz + j, none⟩)

def PaOk (k : Blk) (loc : Option Loc) (j e n : Nat) (x : Int) (o : Nat) (v : Value) : Prop :=
  0 ≤ x ∧ x < n ∧ j + n * e ≤ k.len ∧ k.isBox = true ∧
    ∃ cb base sz top, loc = some (.at cb base sz top) ∧ v = .pointer (some ⟨cb, base + (j + x.toNat * e + o), none⟩)

def SlOk (k : Blk) (loc : Option Loc) (i : Nat) (m : Option Nat) (v : Value) : Prop :=
  (loc = some .virt ∧ i = 0 ∧ (m = none ∨ m = some 0) ∧ v = .slice none 0 0) ∨
  ∃ cb base sz top off len cap, loc = some (.at cb base sz top) ∧ v = .slice (some ⟨cb, off, none⟩) len cap ∧ (0 < cap → off = base + i * sz) ∧ off ≤ top ∧ len ≤ cap ∧
    base + (i + cap) * sz ≤ top ∧ (match m with | none => i + len = k.cnt | some m => len = m ∧ i + m ≤ k.cnt)

def SbOk (k : Blk) (loc : Option Loc) (j s n : Nat) (v : Value) : Prop :=
  j + n * s ≤ k.len ∧ k.isBox = true ∧ ∃ cb base sz top cap, loc = some (.at cb base sz top) ∧ v = .slice (some ⟨cb, base + j, none⟩) n cap ∧ n ≤ cap ∧ j + cap * s ≤ k.len

/-- An abstract value stands for a value. -/
inductive RV (β : Nat → Option Loc) (M : Mem) (Z : Nat → Prop) (h : Heap) : V → Value → Prop
  | dead (v : Value) : RV β M Z h .dead v
  | bool (b : Bool) : RV β M Z h (.bool b) (.bool b)
  | int (k : IntKind) (n : Int) : RV β M Z h (.int k n) (.int k n)
  | str (s : ByteArray) : RV β M Z h (.str s) (.string s)
  | nils : RV β M Z h .nils (.slice none 0 0)
  | nilp : RV β M Z h .nilp (.pointer none)
  | nilf : RV β M Z h .nilf .nilFunc
  | nilm : RV β M Z h .nilm (.map none)
  | ptr (b i j g : Nat) (v : Value) (h1 : v.oneCell' = true) (hn : M b ≠ .none)
      (hg : ∀ g0, (M b).gen = some g0 → g ≤ g0 ∧ (g = g0 → PtrOk (M b) (β b) i j v)) : RV β M Z h (.ptr b i j g) v
  | pa (b j e n : Nat) (x : Int) (o : Nat) (v : Value) (h1 : v.oneCell' = true) (hn : M b ≠ .none)
      (hg : ∀ g0, (M b).gen = some g0 → g0 = 0 → PaOk (M b) (β b) j e n x o v) : RV β M Z h (.pa b j e n x o) v
  | sl (b i : Nat) (m : Option Nat) (g : Nat) (v : Value) (h1 : v.oneCell' = true) (hn : M b ≠ .none)
      (hg : ∀ g0, (M b).gen = some g0 → g ≤ g0 ∧ (g = g0 → SlOk (M b) (β b) i m v)) : RV β M Z h (.sl b i m g) v
  | sb (b j s n : Nat) (v : Value) (h1 : v.oneCell' = true) (hn : M b ≠ .none)
      (hg : ∀ g0, (M b).gen = some g0 → g0 = 0 → SbOk (M b) (β b) j s n v) : RV β M Z h (.sb b j s n) v
  | fz (τ : Ty) (l : List τ.den) (v : Value) (hd : RD h Z (.slice τ) l [v]) : RV β M Z h (.fz τ l) v
  | fp (τ : Ty) (l : List τ.den) (i j : Nat) (v : Value) (cb off : Nat) (c : Array Value) (T : TypeId) (fz : Nat × Nat) (x : τ.den)
      (hv : v = .pointer (some ⟨cb, off + j, none⟩)) (hz : Z cb) (hc : h[cb]? = some (.cells c T fz)) (hx : l[i]? = some x) (ho : off + τ.size ≤ c.size)
      (hd : RD h Z τ x ((c.toList.drop off).take τ.size)) : RV β M Z h (.fp τ l i j) v
  | fn (f : FuncId) (cap : List V) (vs : Array Value) (hl : cap.length = vs.size)
      (hc : ∀ i (hi : i < cap.length), RV β M Z h cap[i] (vs.getD i undef)) : RV β M Z h (.fn f cap) (.func (.func f) #[] vs)
  | agg (cs : List V) (vs : Array Value) (hl : cs.length = vs.size)
      (hc : ∀ i (hi : i < cs.length), RV β M Z h cs[i] (vs.getD i undef)) : RV β M Z h (.agg cs) (.agg vs)
  | tup (cs : List V) (vs : Array Value) (hl : cs.length = vs.size)
      (hc : ∀ i (hi : i < cs.length), RV β M Z h cs[i] (vs.getD i undef)) : RV β M Z h (.tup cs) (.tuple vs)

/-- What references need of a change. -/
structure Grow (β : Nat → Option Loc) (M : Mem) (Z : Nat → Prop) (h : Heap) (β' : Nat → Option Loc) (M' : Mem) (Z' : Nat → Prop) (h' : Heap) : Prop where
  zkeep : ∀ cb, Z cb → h'[cb]? = h[cb]?
  zmono : ∀ cb, Z cb → Z' cb
  nn : ∀ b, M b ≠ .none → M' b ≠ .none
  gone : ∀ b, M b ≠ .none → (M b).gen = none → (M' b).gen = none
  gens : ∀ b g, (M b).gen = some g → ∀ g', (M' b).gen = some g' →
    g ≤ g' ∧ (g = g' → β' b = β b ∧ (M' b).len = (M b).len ∧ (M' b).cnt = (M b).cnt ∧ (M' b).isBox = (M b).isBox)

section
variable {β β' β'' : Nat → Option Loc} {M M' M'' : Mem} {Z Z' Z'' : Nat → Prop} {h h' h'' : Heap}

theorem Grow.refl (β : Nat → Option Loc) (M : Mem) (Z : Nat → Prop) (h : Heap) : Grow β M Z h β M Z h :=
  ⟨fun _ _ => rfl, fun _ h => h, fun _ h => h, fun _ _ h => h, fun b g hg g' hg' => by
    rw [hg] at hg'; cases hg'; exact ⟨Nat.le_refl _, fun _ => ⟨rfl, rfl, rfl, rfl⟩⟩⟩

theorem gen_none {k : Blk} : k = .none → k.gen = none := by rintro rfl; rfl

theorem Grow.trans (g1 : Grow β M Z h β' M' Z' h') (g2 : Grow β' M' Z' h' β'' M'' Z'' h'') : Grow β M Z h β'' M'' Z'' h'' where
  zkeep cb hz := by rw [g2.zkeep cb (g1.zmono cb hz), g1.zkeep cb hz]
  zmono cb hz := g2.zmono cb (g1.zmono cb hz)
  nn b hb := g2.nn b (g1.nn b hb)
  gone b hb hg := g2.gone b (g1.nn b hb) (g1.gone b hb hg)
  gens b g hg g'' hg'' := by
    have hb : M b ≠ .none := fun hb => by rw [gen_none hb] at hg; cases hg
    cases hm : (M' b).gen with
    | none => have := g2.gone b (g1.nn b hb) hm; rw [this] at hg''; cases hg''
    | some g' =>
      obtain ⟨a1, a2⟩ := g1.gens b g hg g' hm
      obtain ⟨b1, b2⟩ := g2.gens b g' hm g'' hg''
      refine ⟨Nat.le_trans a1 b1, fun e => ?_⟩
      have e1 : g = g' := by omega
      have e2 : g' = g'' := by omega
      obtain ⟨p1, p2, p3, p4⟩ := a2 e1
      obtain ⟨q1, q2, q3, q4⟩ := b2 e2
      exact ⟨q1.trans p1, q2.trans p2, q3.trans p3, q4.trans p4⟩

theorem PtrOk.of_eq {k k' : Blk} {loc loc' : Option Loc} {i j : Nat} {v : Value} (hc : k'.cnt = k.cnt) (hl : loc' = loc) (p : PtrOk k loc i j v) : PtrOk k' loc' i j v := by
  unfold PtrOk at *; rw [hc, hl]; exact p

theorem SlOk.of_eq {k k' : Blk} {loc loc' : Option Loc} {i : Nat} {m : Option Nat} {v : Value} (hc : k'.cnt = k.cnt) (hl : loc' = loc) (p : SlOk k loc i m v) : SlOk k' loc' i m v := by
  unfold SlOk at *; rw [hc, hl]; exact p

theorem PaOk.of_eq {k k' : Blk} {loc loc' : Option Loc} {j e n : Nat} {x : Int} {o : Nat} {v : Value} (hc : k'.len = k.len) (hb : k'.isBox = k.isBox) (hl : loc' = loc)
    (p : PaOk k loc j e n x o v) : PaOk k' loc' j e n x o v := by
  unfold PaOk at *; rw [hc, hb, hl]; exact p

theorem SbOk.of_eq {k k' : Blk} {loc loc' : Option Loc} {j s n : Nat} {v : Value} (hc : k'.len = k.len) (hb : k'.isBox = k.isBox) (hl : loc' = loc)
    (p : SbOk k loc j s n v) : SbOk k' loc' j s n v := by
  unfold SbOk at *; rw [hc, hb, hl]; exact p

theorem RV.mono (g : Grow β M Z h β' M' Z' h') {x : V} {v : Value} (r : RV β M Z h x v) : RV β' M' Z' h' x v := by
  induction r with
  | dead v => exact .dead v
  | bool b => exact .bool b
  | int k n => exact .int k n
  | str s => exact .str s
  | nils => exact .nils
  | nilp => exact .nilp
  | nilf => exact .nilf
  | nilm => exact .nilm
  | ptr b i j gg v h1 hn hg =>
    refine .ptr b i j gg v h1 (g.nn b hn) fun g1 h1 => ?_
    cases hm : (M b).gen with
    | none => rw [g.gone b hn hm] at h1; cases h1
    | some g0 =>
      obtain ⟨a1, a2⟩ := hg g0 hm
      obtain ⟨b1, b2⟩ := g.gens b g0 hm g1 h1
      refine ⟨Nat.le_trans a1 b1, fun e => ?_⟩
      obtain ⟨p1, p2, p3, p4⟩ := b2 (by omega)
      exact (a2 (by omega)).of_eq p3 p1
  | pa b j e n x o v h1 hn hg =>
    refine .pa b j e n x o v h1 (g.nn b hn) fun g1 h1 e1 => ?_
    cases hm : (M b).gen with
    | none => rw [g.gone b hn hm] at h1; cases h1
    | some g0 =>
      obtain ⟨b1, b2⟩ := g.gens b g0 hm g1 h1
      have e0 : g0 = 0 := by omega
      obtain ⟨p1, p2, p3, p4⟩ := b2 (by omega)
      exact (hg g0 hm e0).of_eq p2 p4 p1
  | sl b i m gg v h1 hn hg =>
    refine .sl b i m gg v h1 (g.nn b hn) fun g1 h1 => ?_
    cases hm : (M b).gen with
    | none => rw [g.gone b hn hm] at h1; cases h1
    | some g0 =>
      obtain ⟨a1, a2⟩ := hg g0 hm
      obtain ⟨b1, b2⟩ := g.gens b g0 hm g1 h1
      refine ⟨Nat.le_trans a1 b1, fun e => ?_⟩
      obtain ⟨p1, p2, p3, p4⟩ := b2 (by omega)
      exact (a2 (by omega)).of_eq p3 p1
  | sb b j s n v h1 hn hg =>
    refine .sb b j s n v h1 (g.nn b hn) fun g1 h1 e1 => ?_
    cases hm : (M b).gen with
    | none => rw [g.gone b hn hm] at h1; cases h1
    | some g0 =>
      obtain ⟨b1, b2⟩ := g.gens b g0 hm g1 h1
      have e0 : g0 = 0 := by omega
      obtain ⟨p1, p2, p3, p4⟩ := b2 (by omega)
      exact (hg g0 hm e0).of_eq p2 p4 p1
  | fz τ l v hd => exact .fz τ l v (hd.mono g.zkeep g.zmono)
  | fp τ l i j v cb off c T fz x hv hz hc hx ho hd =>
    exact .fp τ l i j v cb off c T fz x hv (g.zmono _ hz) (by rw [g.zkeep _ hz]; exact hc) hx ho (hd.mono g.zkeep g.zmono)
  | fn f cap vs hl hc ih => exact .fn f cap vs hl ih
  | agg cs vs hl hc ih => exact .agg cs vs hl ih
  | tup cs vs hl hc ih => exact .tup cs vs hl ih

/-! ### Memory -/
def RB (β : Nat → Option Loc) (M : Mem) (Z : Nat → Prop) (h : Heap) (b : Nat) : Prop :=
  match M b with
  | .box cells => ∃ cb T c, β b = some (.at cb 0 1 c.size) ∧ h[cb]? = some (.cells c T (0, 0)) ∧ c.size = cells.length ∧
      ∀ i (hi : i < cells.length), RV β M Z h cells[i] (c.getD i undef)
  | .row τ l _ ro => (l = [] ∧ β b = some .virt) ∨
      ∃ cb base T c fz, β b = some (.at cb base τ.size c.size) ∧ h[cb]? = some (.cells c T fz) ∧ (ro = false → fz = (0, 0)) ∧ base + l.length * τ.size ≤ c.size ∧
        (∀ i x, l[i]? = some x → RD h Z τ x ((c.toList.drop (base + i * τ.size)).take τ.size)) ∧ (ro = true → Z cb)
  | _ => True

/-- the concrete block of b -/
def Loc.blk? : Option Loc → Option Nat
  | some (.at cb _ _ _) => some cb
  | _ => none

/-- b is live and lies in block cb -/
def lies (β : Nat → Option Loc) (M : Mem) (b cb : Nat) : Prop := (M b).gen ≠ none ∧ Loc.blk? (β b) = some cb

/-- block cb is ours to write -/
def owned (β : Nat → Option Loc) (M : Mem) (cb : Nat) : Prop := ∃ b, (M b).own = true ∧ lies β M b cb

/-- what the listed package variables hold -/
def GI (Z : Nat → Prop) (h : Heap) : Prop := ∀ (g : Nat) (τ : Ty) (x : τ.den), globTab g = some ⟨τ, x⟩ →
  Z g ∧ ∃ c T fz, h[g]? = some (.cells c T fz) ∧ 0 + τ.size ≤ c.size ∧ RD h Z τ x ((c.toList.drop 0).take τ.size)

/-- the zone of what is only read -/
structure ZOk (Z : Nat → Prop) (h : Heap) : Prop where
  lt : ∀ cb, Z cb → cb < h.size
  gl : GI Z h

theorem ZOk.mono {Z Z' : Nat → Prop} {h h' : Heap} (z : ZOk Z h) (hk : ∀ cb, Z cb → h'[cb]? = h[cb]?) (hz : ∀ cb, Z cb → Z' cb) (hl : ∀ cb, Z' cb → cb < h'.size) : ZOk Z' h' :=
  ⟨hl, fun g τ x hg => by
    obtain ⟨h1, c, T, fz, h2, h3, h4⟩ := z.gl g τ x hg
    exact ⟨hz g h1, c, T, fz, (hk g h1).trans h2, h3, h4.mono hk hz⟩⟩

structure RMem (β : Nat → Option Loc) (M : Mem) (Z : Nat → Prop) (h : Heap) : Prop where
  blk : ∀ b, RB β M Z h b
  sep : ∀ b b' cb, (M b).own = true → lies β M b cb → lies β M b' cb → b = b'
  zown : ∀ cb, Z cb → ¬ owned β M cb
  zlt : ZOk Z h

theorem lies_lt {b cb : Nat} (r : RB β M Z h b) (hl : lies β M b cb) : cb < h.size := by
  obtain ⟨h1, h2⟩ := hl
  unfold RB at r
  cases hm : M b with
  | none => simp [hm, Blk.gen] at h1
  | dead => simp [hm, Blk.gen] at h1
  | box cells =>
    simp only [hm] at r
    obtain ⟨cb', T, c, e1, e2, _⟩ := r
    rw [e1] at h2; simp only [Loc.blk?, Option.some.injEq] at h2; subst h2
    exact (Array.getElem?_eq_some_iff.1 e2).1
  | row τ l g ro =>
    simp only [hm] at r
    rcases r with ⟨_, e1⟩ | ⟨cb', base, T, c, fz, e1, e2, _⟩
    · rw [e1] at h2; simp [Loc.blk?] at h2
    · rw [e1] at h2; simp only [Loc.blk?, Option.some.injEq] at h2; subst h2
      exact (Array.getElem?_eq_some_iff.1 e2).1

/-- What becomes of memory: the whole of it. -/
structure Ev (β : Nat → Option Loc) (M : Mem) (Z : Nat → Prop) (h : Heap) (β' : Nat → Option Loc) (M' : Mem) (Z' : Nat → Prop) (h' : Heap) : Prop extends Grow β M Z h β' M' Z' h' where
  size : h.size ≤ h'.size
  frame : ∀ cb, cb < h.size → ¬ owned β M cb → h'[cb]? = h[cb]?
  own : ∀ cb, owned β' M' cb → h.size ≤ cb ∨ owned β M cb
  znew : ∀ cb, Z' cb → Z cb ∨ h.size ≤ cb ∨ owned β M cb

theorem Ev.refl (β : Nat → Option Loc) (M : Mem) (Z : Nat → Prop) (h : Heap) : Ev β M Z h β M Z h where
  toGrow := Grow.refl β M Z h
  size := Nat.le_refl _
  frame _ _ _ := rfl
  own _ h := .inr h
  znew _ h := .inl h

theorem Ev.trans (g1 : Ev β M Z h β' M' Z' h') (g2 : Ev β' M' Z' h' β'' M'' Z'' h'') : Ev β M Z h β'' M'' Z'' h'' where
  toGrow := g1.toGrow.trans g2.toGrow
  size := Nat.le_trans g1.size g2.size
  frame cb hlt ho := by
    have ho' : ¬ owned β' M' cb := fun q => by
      rcases g1.own cb q with q | q
      · omega
      · exact ho q
    rw [g2.frame cb (Nat.lt_of_lt_of_le hlt g1.size) ho', g1.frame cb hlt ho]
  own cb q := by
    rcases g2.own cb q with q | q
    · exact .inl (Nat.le_trans g1.size q)
    · exact g1.own cb q
  znew cb q := by
    rcases g2.znew cb q with q | q | q
    · exact g1.znew cb q
    · exact .inr (.inl (Nat.le_trans g1.size q))
    · rcases g1.own cb q with q | q
      · exact .inr (.inl q)
      · exact .inr (.inr q)

/-- Of the world at large: what it has printed, and which cells are frozen, stays. -/
def Wd (w w' : World) : Prop := w'.os = w.os ∧ w'.output = w.output ∧ ∀ a, w'.frozen? a = w.frozen? a

theorem Wd.refl (w : World) : Wd w w := ⟨rfl, rfl, fun _ => rfl⟩
theorem Wd.trans {w w' w'' : World} (h1 : Wd w w') (h2 : Wd w' w'') : Wd w w'' := ⟨h2.1.trans h1.1, h2.2.1.trans h1.2.1, fun a => (h2.2.2 a).trans (h1.2.2 a)⟩

structure EvW (β : Nat → Option Loc) (M : Mem) (Z : Nat → Prop) (w : World) (β' : Nat → Option Loc) (M' : Mem) (Z' : Nat → Prop) (w' : World) : Prop extends Ev β M Z w.heap β' M' Z' w'.heap where
  wd : Wd w w'

theorem EvW.refl (β : Nat → Option Loc) (M : Mem) (Z : Nat → Prop) (w : World) : EvW β M Z w β M Z w := ⟨Ev.refl _ _ _ _, Wd.refl _⟩
theorem EvW.trans {w w' w'' : World} (g1 : EvW β M Z w β' M' Z' w') (g2 : EvW β' M' Z' w' β'' M'' Z'' w'') : EvW β M Z w β'' M'' Z'' w'' := ⟨g1.toEv.trans g2.toEv, g1.wd.trans g2.wd⟩

/-- a block that is not touched -/
theorem RB.keep {b : Nat} (r : RB β M Z h b) (g : Grow β M Z h β' M' Z' h') (hM : M' b = M b) (hβ : (M b).gen ≠ none → β' b = β b)
    (hh : ∀ cb, lies β M b cb → h'[cb]? = h[cb]?) : RB β' M' Z' h' b := by
  unfold RB at *
  rw [hM]
  cases hm : M b with
  | none => simp
  | dead => simp
  | box cells =>
    simp only [hm] at r ⊢
    have hb := hβ (by simp [hm, Blk.gen])
    obtain ⟨cb, T, c, e1, e2, e3, e4⟩ := r
    refine ⟨cb, T, c, by rw [hb]; exact e1, ?_, e3, fun i hi => (e4 i hi).mono g⟩
    rw [hh cb ⟨by simp [hm, Blk.gen], by rw [e1]; rfl⟩]; exact e2
  | row τ l gg ro =>
    simp only [hm] at r ⊢
    have hb := hβ (by simp [hm, Blk.gen])
    rcases r with ⟨e0, e1⟩ | ⟨cb, base, T, c, fz, e1, e2, e3, e4, e5, e6⟩
    · exact .inl ⟨e0, by rw [hb]; exact e1⟩
    · refine .inr ⟨cb, base, T, c, fz, by rw [hb]; exact e1, ?_, e3, e4, fun i x hx => (e5 i x hx).mono g.zkeep g.zmono, fun hr => g.zmono _ (e6 hr)⟩
      rw [hh cb ⟨by simp [hm, Blk.gen], by rw [e1]; rfl⟩]; exact e2

end
end Go.Pv
