/-
  New blocks, and writes into blocks of one's own: what is kept.
-/
import Derived.Test.YtdfbjdchnkhiiaaDoorPvOk5
import Derived.Laws.AppendOwn
import Derived.Laws.Tables
import Derived.Great.BuildSlice
namespace Go.Pv
section
variable {P : Program} {M2 M' : Mem} {β : Nat → Option Loc} {Z : Nat → Prop} {h h' : Heap}

def updβ (β : Nat → Option Loc) (b : Nat) (l : Loc) : Nat → Option Loc := fun x => if x = b then some l else β x

theorem upd_same (M : Mem) (b : Nat) (k : Blk) : (M.upd b k) b = k := by simp [Mem.upd]
theorem upd_ne (M : Mem) {b x : Nat} (k : Blk) (h : x ≠ b) : (M.upd b k) x = M x := by
  have : Nat.beq x b = false := by
    cases e : Nat.beq x b with
    | false => rfl
    | true => exact absurd (Nat.eq_of_beq_eq_true e) h
  simp [Mem.upd, this]
theorem updβ_same (β : Nat → Option Loc) (b : Nat) (l : Loc) : updβ β b l b = some l := by simp [updβ]
theorem updβ_ne (β : Nat → Option Loc) {b x : Nat} (l : Loc) (h : x ≠ b) : updβ β b l x = β x := by simp [updβ, h]

theorem Wd.alloc (w : World) (c : Array Value) (t : TypeId) : Wd w (w.alloc (.cells c t (0, 0))) := by
  refine ⟨rfl, rfl, fun a => ?_⟩
  unfold World.frozen?
  have e : (w.alloc (.cells c t (0, 0))).heap = w.heap.push (.cells c t (0, 0)) := rfl
  rw [e, Array.getElem?_push]
  by_cases h : a.block = w.heap.size
  · rw [if_pos h, h]; simp
  · rw [if_neg h]

theorem Wd.grow (w : World) (c : Array Value) (t : TypeId) : Wd w (w.drew.alloc (.cells c t (0, 0))) := Wd.alloc w.drew c t

theorem Wd.setRow (w : World) (cb : Nat) (c : Array Value) : Wd w (w.setRow cb c) := by
  refine ⟨rfl, rfl, fun a => ?_⟩
  unfold World.frozen?
  simp only [World.setRow, Array.getElem?_modify]
  by_cases h : cb = a.block
  · rw [if_pos h]
    cases hh : w.heap[a.block]? with
    | none => rfl
    | some o => cases o <;> rfl
  · rw [if_neg h]

/-- A new block: k at id, in a new concrete block (or in none: an empty row). -/
theorem new_ev (hm : RMem β M2 Z h) {id : Nat} (hid : M2 id = .none) (k : Blk) (loc : Loc) (hloc : ∀ cb base sz top, loc = .at cb base sz top → h.size ≤ cb)
    (hs : h.size ≤ h'.size) (hh : ∀ cb, cb < h.size → h'[cb]? = h[cb]?) : Ev β M2 Z h (updβ β id loc) (M2.upd id k) Z h' := by
  have ne : ∀ {b : Nat}, M2 b ≠ .none → b ≠ id := fun hb e => hb (by rw [e]; exact hid)
  refine { zkeep := fun cb hz => hh cb (hm.zlt.lt cb hz), zmono := fun _ h => h, nn := fun b hb => by rw [upd_ne _ _ (ne hb)]; exact hb, gone := fun b hb hg => by rw [upd_ne _ _ (ne hb)]; exact hg, gens := ?_, size := hs, frame := fun cb hlt _ => hh cb hlt, own := ?_, znew := fun _ h => .inl h }
  · intro b g hg g' hg'
    have hb : b ≠ id := ne fun e => by rw [gen_none e] at hg; cases hg
    rw [upd_ne _ _ hb] at hg' ⊢
    rw [hg] at hg'; cases hg'
    exact ⟨Nat.le_refl _, fun _ => ⟨updβ_ne _ _ hb, rfl, rfl, rfl⟩⟩
  · rintro cb ⟨b, h1, h2, h3⟩
    by_cases hb : b = id
    · subst hb
      rw [updβ_same] at h3
      cases loc with
      | virt => simp [Loc.blk?] at h3
      | «at» c2 base sz top => simp only [Loc.blk?, Option.some.injEq] at h3; subst h3; exact .inl (hloc _ _ _ _ rfl)
    · rw [upd_ne _ _ hb] at h1 h2
      rw [updβ_ne _ _ hb] at h3
      exact .inr ⟨b, h1, h2, h3⟩

theorem new_mem (hm : RMem β M2 Z h) {id : Nat} (hid : M2 id = .none) (k : Blk) (loc : Loc) (hloc : ∀ cb base sz top, loc = .at cb base sz top → h.size ≤ cb)
    (hs : h.size ≤ h'.size) (hh : ∀ cb, cb < h.size → h'[cb]? = h[cb]?) (hb : RB (updβ β id loc) (M2.upd id k) Z h' id) : RMem (updβ β id loc) (M2.upd id k) Z h' := by
  have ev := new_ev hm hid k loc hloc hs hh
  have hlies : ∀ {b cb : Nat}, b ≠ id → lies (updβ β id loc) (M2.upd id k) b cb → lies β M2 b cb := by
    intro b cb hne hl
    unfold lies at *
    rw [upd_ne _ _ hne, updβ_ne _ _ hne] at hl
    exact hl
  have hnew : ∀ {cb : Nat}, lies (updβ β id loc) (M2.upd id k) id cb → h.size ≤ cb := by
    rintro cb ⟨_, h3⟩
    rw [updβ_same] at h3
    cases loc with
    | virt => simp [Loc.blk?] at h3
    | «at» c2 base sz top => simp only [Loc.blk?, Option.some.injEq] at h3; subst h3; exact hloc _ _ _ _ rfl
  refine ⟨fun b => ?_, ?_, ?_, hm.zlt.mono (fun cb hz => hh cb (hm.zlt.lt cb hz)) (fun _ h => h) fun cb hz => Nat.lt_of_lt_of_le (hm.zlt.lt cb hz) hs⟩
  · by_cases e : b = id
    · rw [e]; exact hb
    · exact (hm.blk b).keep ev.toGrow (upd_ne _ _ e) (fun _ => updβ_ne _ _ e) fun cb hl => hh cb (lies_lt (hm.blk b) hl)
  · intro b b' cb ho hl hl'
    by_cases e : b = id
    · by_cases e' : b' = id
      · rw [e, e']
      · exfalso; rw [e] at hl
        have := hnew hl; have := lies_lt (hm.blk b') (hlies e' hl'); omega
    · by_cases e' : b' = id
      · exfalso; rw [e'] at hl'
        have := hnew hl'; have := lies_lt (hm.blk b) (hlies e hl); omega
      · rw [upd_ne _ _ e] at ho
        exact hm.sep b b' cb ho (hlies e hl) (hlies e' hl')
  · intro cb hz ho
    rcases ev.own cb ho with q | q
    · have := hm.zlt.lt cb hz; omega
    · exact hm.zown cb hz q

/-- a new box -/
theorem new_box (hm : RMem β M2 Z h) {id : Nat} (hid : M2 id = .none) {cells : List V} {c : Array Value} (hr : RL β M2 Z h cells c.toList) (T : TypeId) :
    RMem (updβ β id (.at h.size 0 1 c.size)) (M2.upd id (.box cells)) Z (h.push (.cells c T (0, 0))) ∧
    Ev β M2 Z h (updβ β id (.at h.size 0 1 c.size)) (M2.upd id (.box cells)) Z (h.push (.cells c T (0, 0))) ∧
    RV (updβ β id (.at h.size 0 1 c.size)) (M2.upd id (.box cells)) Z (h.push (.cells c T (0, 0))) (.ptr id 0 0 0) (.pointer (some ⟨h.size, 0, none⟩)) := by
  have hs : h.size ≤ (h.push (.cells c T (0, 0))).size := by simp
  have hh : ∀ cb, cb < h.size → (h.push (.cells c T (0, 0)))[cb]? = h[cb]? := fun cb hlt => by rw [Array.getElem?_push]; rw [if_neg (by omega)]
  have hl : ∀ cb base sz top, Loc.at h.size 0 1 c.size = .at cb base sz top → h.size ≤ cb := fun cb base sz top e => by cases e; exact Nat.le_refl _
  have ev := new_ev hm hid (.box cells) (.at h.size 0 1 c.size) hl hs hh
  refine ⟨new_mem hm hid (.box cells) _ hl hs hh ?_, ev, ?_⟩
  · unfold RB
    simp only [upd_same]
    refine ⟨h.size, T, c, updβ_same _ _ _, by simp, ?_, ?_⟩
    · have := hr.1; simpa using this.symm
    · have := (hr.mono ev.toGrow).to_arr; exact this.2
  · refine .ptr id 0 0 0 _ rfl (by rw [upd_same]; simp) fun g0 hg0 => ?_
    rw [upd_same] at hg0 ⊢
    simp only [Blk.gen, Option.some.injEq] at hg0
    subst hg0
    exact ⟨Nat.le_refl _, fun _ => ⟨by simp [Blk.cnt], h.size, 0, 1, c.size, updβ_same _ _ _, by simp⟩⟩

/-- a new row -/
theorem new_row (hm : RMem β M2 Z h) {id : Nat} (hid : M2 id = .none) {τ : Ty} {l : List τ.den} {c : Array Value} {cap : Nat} (hc : cap * τ.size = c.size) (hl : l.length ≤ cap)
    (hr : ∀ i x, l[i]? = some x → RD h Z τ x ((c.toList.drop (i * τ.size)).take τ.size)) (T : TypeId) :
    RMem (updβ β id (.at h.size 0 τ.size c.size)) (M2.upd id (.row τ l 0 false)) Z (h.push (.cells c T (0, 0))) ∧
    Ev β M2 Z h (updβ β id (.at h.size 0 τ.size c.size)) (M2.upd id (.row τ l 0 false)) Z (h.push (.cells c T (0, 0))) ∧
    RV (updβ β id (.at h.size 0 τ.size c.size)) (M2.upd id (.row τ l 0 false)) Z (h.push (.cells c T (0, 0))) (.sl id 0 none 0) (.slice (some ⟨h.size, 0, none⟩) l.length cap) := by
  have hs : h.size ≤ (h.push (.cells c T (0, 0))).size := by simp
  have hh : ∀ cb, cb < h.size → (h.push (.cells c T (0, 0)))[cb]? = h[cb]? := fun cb hlt => by rw [Array.getElem?_push]; rw [if_neg (by omega)]
  have hlo : ∀ cb base sz top, Loc.at h.size 0 τ.size c.size = .at cb base sz top → h.size ≤ cb := fun cb base sz top e => by cases e; exact Nat.le_refl _
  have ev := new_ev hm hid (.row τ l 0 false) (.at h.size 0 τ.size c.size) hlo hs hh
  refine ⟨new_mem hm hid (.row τ l 0 false) _ hlo hs hh ?_, ev, ?_⟩
  · unfold RB
    simp only [upd_same]
    refine .inr ⟨h.size, 0, T, c, (0, 0), updβ_same _ _ _, by simp, by simp, ?_, fun i x hx => ?_, by simp⟩
    · have := Nat.mul_le_mul_right τ.size hl; omega
    · have := (hr i x hx).mono ev.zkeep ev.zmono
      simpa using this
  · refine .sl id 0 none 0 _ rfl (by rw [upd_same]; simp) fun g0 hg0 => ?_
    rw [upd_same] at hg0 ⊢
    simp only [Blk.gen, Option.some.injEq] at hg0
    subst hg0
    exact ⟨Nat.le_refl _, fun _ => .inr ⟨h.size, 0, τ.size, c.size, 0, l.length, cap, updβ_same _ _ _, rfl, by simp, by omega, hl, by simp; omega, by simp [Blk.cnt]⟩⟩

/-- an empty row that lies nowhere -/
theorem new_virt (hm : RMem β M2 Z h) {id : Nat} (hid : M2 id = .none) (τ : Ty) :
    RMem (updβ β id .virt) (M2.upd id (.row τ [] 0 false)) Z h ∧ Ev β M2 Z h (updβ β id .virt) (M2.upd id (.row τ [] 0 false)) Z h ∧
    RV (updβ β id .virt) (M2.upd id (.row τ [] 0 false)) Z h (.sl id 0 none 0) (.slice none 0 0) := by
  have hlo : ∀ cb base sz top, Loc.virt = .at cb base sz top → h.size ≤ cb := fun cb base sz top e => by cases e
  have ev := new_ev hm hid (.row τ [] 0 false) .virt hlo (Nat.le_refl _) (fun _ _ => rfl)
  refine ⟨new_mem hm hid (.row τ [] 0 false) _ hlo (Nat.le_refl _) (fun _ _ => rfl) ?_, ev, ?_⟩
  · unfold RB
    simp only [upd_same]
    exact .inl ⟨by trivial, updβ_same _ _ _⟩
  · refine .sl id 0 none 0 _ rfl (by rw [upd_same]; simp) fun g0 hg0 => ?_
    rw [upd_same] at hg0 ⊢
    simp only [Blk.gen, Option.some.injEq] at hg0
    subst hg0
    exact ⟨Nat.le_refl _, fun _ => .inl ⟨updβ_same _ _ _, rfl, .inl rfl, rfl⟩⟩

/-- A write into the concrete block of b, which is ours: b becomes k'. -/
theorem wr_ev (hm : RMem β M2 Z h) {b cb : Nat} {k' : Blk} (ho : (M2 b).own = true) (hl : Loc.blk? (β b) = some cb ∨ β b = some .virt)
    (hg : k'.gen = (M2 b).gen) (hlen : k'.len = (M2 b).len) (hcnt : k'.cnt = (M2 b).cnt) (hbox : k'.isBox = (M2 b).isBox)
    (hs : h'.size = h.size) (hh : ∀ x, Loc.blk? (β b) ≠ some x → h'[x]? = h[x]?) : Ev β M2 Z h β (M2.upd b k') Z h' := by
  have hgen : (M2 b).gen ≠ none := by cases hb : M2 b <;> simp [hb, Blk.own, Blk.gen] at *
  have howned : ∀ x, Loc.blk? (β b) = some x → owned β M2 x := fun x hx => ⟨b, ho, hgen, hx⟩
  have hh' : ∀ x, ¬ owned β M2 x → h'[x]? = h[x]? := fun x hx => hh x fun e => hx (howned x e)
  refine { zkeep := fun x hz => hh' x (hm.zown x hz), zmono := fun _ h => h, nn := ?_, gone := ?_, gens := ?_, size := by omega, frame := fun x _ hx => hh' x hx, own := ?_, znew := fun _ h => .inl h }
  · intro x hx
    by_cases e : x = b
    · rw [e, upd_same]; intro e2; rw [e2] at hg; exact hgen hg.symm
    · rw [upd_ne _ _ e]; exact hx
  · intro x hx hn
    by_cases e : x = b
    · rw [e] at hn; exact absurd hn hgen
    · rw [upd_ne _ _ e]; exact hn
  · intro x g hx g' hx'
    by_cases e : x = b
    · subst e
      rw [upd_same] at hx' ⊢
      rw [hg, hx] at hx'; cases hx'
      exact ⟨Nat.le_refl _, fun _ => ⟨rfl, hlen, hcnt, hbox⟩⟩
    · rw [upd_ne _ _ e] at hx' ⊢
      rw [hx] at hx'; cases hx'
      exact ⟨Nat.le_refl _, fun _ => ⟨rfl, rfl, rfl, rfl⟩⟩
  · rintro x ⟨y, h1, h2, h3⟩
    by_cases e : y = b
    · subst e; exact .inr (howned x h3)
    · rw [upd_ne _ _ e] at h1 h2
      exact .inr ⟨y, h1, h2, h3⟩

theorem wr_mem (hm : RMem β M2 Z h) {b cb : Nat} {k' : Blk} (ho : (M2 b).own = true) (hl : Loc.blk? (β b) = some cb ∨ β b = some .virt)
    (hg : k'.gen = (M2 b).gen) (hlen : k'.len = (M2 b).len) (hcnt : k'.cnt = (M2 b).cnt) (hbox : k'.isBox = (M2 b).isBox)
    (hs : h'.size = h.size) (hh : ∀ x, Loc.blk? (β b) ≠ some x → h'[x]? = h[x]?) (hb : RB β (M2.upd b k') Z h' b) : RMem β (M2.upd b k') Z h' := by
  have ev := wr_ev hm ho hl hg hlen hcnt hbox hs hh
  have hgen : (M2 b).gen ≠ none := by cases hb : M2 b <;> simp [hb, Blk.own, Blk.gen] at *
  have hlies : ∀ {x cb : Nat}, lies β (M2.upd b k') x cb → lies β M2 x cb := by
    intro x cb hl
    by_cases e : x = b
    · subst e; exact ⟨hgen, hl.2⟩
    · unfold lies at *; rw [upd_ne _ _ e] at hl; exact hl
  refine ⟨fun x => ?_, ?_, ?_, hm.zlt.mono ev.zkeep (fun _ h => h) fun cb hz => by rw [hs]; exact hm.zlt.lt cb hz⟩
  · by_cases e : x = b
    · rw [e]; exact hb
    · refine (hm.blk x).keep ev.toGrow (upd_ne _ _ e) (fun _ => rfl) fun cb hlx => hh cb fun e2 => e ?_
      exact (hm.sep b x cb ho ⟨hgen, e2⟩ hlx).symm
  · intro x x' cb hox hlx hlx'
    by_cases e : x = b
    · subst e; exact hm.sep x x' cb ho (hlies hlx) (hlies hlx')
    · rw [upd_ne _ _ e] at hox
      exact hm.sep x x' cb hox (hlies hlx) (hlies hlx')
  · rintro cb hz ⟨y, h1, h2, h3⟩
    refine hm.zown cb hz ?_
    by_cases e : y = b
    · subst e; exact ⟨y, ho, hgen, h3⟩
    · rw [upd_ne _ _ e] at h1 h2; exact ⟨y, h1, h2, h3⟩

end
end Go.Pv
