/-
  Operations that read memory.
-/
import Derived.Test.YtdfbjdchnkhiiaaDoorPvOk2
namespace Go.Pv
section
variable {P : Program} {T : TypeId → TT} {o : Oper} {ev : Operand → V} {M : Mem} {R : Type}
variable {β : Nat → Option Loc} {M2 : Mem} {Z : Nat → Prop} {h : Heap}

theorem cell_of {w : World} {cb : Nat} {c : Array Value} {T : TypeId} {fz : Nat × Nat} (hc : w.heap[cb]? = some (.cells c T fz)) (off : Nat) :
    w.cell? ⟨cb, off, none⟩ = c[off]? := by
  unfold World.cell?; simp only [hc]; rfl

theorem addr_add (cb off j : Nat) : (Addr.mk cb off none).add j = ⟨cb, off + j, none⟩ := by
  unfold Addr.add; split
  · rename_i e; subst e; rfl
  · rfl

theorem run_loadVar' {t : TypeId} {d : TypeDesc} {i : TypeInfo} (hd : P.underlying t = some d) (hi : P.info? t = some i) {w : World} {cb off : Nat} {c : Array Value} {Te : TypeId} {fz : Nat × Nat}
    (hc : w.heap[cb]? = some (.cells c Te fz)) {v : Value} (hs : off + i.size ≤ c.size) (hv : isVal (K.of d).agg v ((c.toList.drop off).take i.size)) :
    (loadVar t ⟨cb, off, none⟩).run P w = .ok v w := by
  unfold loadVar
  unfold isVal at hv
  simp only [Sem.run_bind, run_isAgg hd, Result.andThen_ok]
  cases ha : (K.of d).agg
  · simp only [ha, Bool.false_eq_true, if_false] at hv ⊢
    rw [run_load, cell_of hc, getElem?_of_chunk hv]
  · simp only [ha, if_true] at hv ⊢
    simp only [Sem.run_bind, run_sizeOf' hi, Result.andThen_ok]
    have hl : ((c.toList.drop off).take i.size).length = i.size := by simp; omega
    have := run_loadCells_list (P := P) w ⟨cb, off, none⟩ ((c.toList.drop off).take i.size) (fun j v hj => by
      rw [addr_add, cell_of hc]
      rw [List.getElem?_take] at hj
      split at hj
      · simpa using hj
      · cases hj)
    rw [hl] at this
    rw [this, hv]
    simp

/-- the cells of a box -/
theorem RMem.box (hm : RMem β M2 Z h) {b : Nat} {cells : List V} (hb : M2 b = .box cells) : ∃ cb Te c, β b = some (.at cb 0 1 c.size) ∧ h[cb]? = some (.cells c Te (0, 0)) ∧ RL β M2 Z h cells c.toList := by
  have := hm.blk b
  unfold RB at this
  simp only [hb] at this
  obtain ⟨cb, Te, c, h1, h2, h3, h4⟩ := this
  exact ⟨cb, Te, c, h1, h2, RL.of_arr h3.symm h4⟩

theorem RMem.row (hm : RMem β M2 Z h) {b : Nat} {τ : Ty} {l : List τ.den} {g : Nat} {ro : Bool} (hb : M2 b = .row τ l g ro) : (l = [] ∧ β b = some .virt) ∨
      ∃ cb base Te c fz, β b = some (.at cb base τ.size c.size) ∧ h[cb]? = some (.cells c Te fz) ∧ (ro = false → fz = (0, 0)) ∧ base + l.length * τ.size ≤ c.size ∧
        (∀ i x, l[i]? = some x → RD h Z τ x ((c.toList.drop (base + i * τ.size)).take τ.size)) ∧ (ro = true → Z cb) := by
  have := hm.blk b
  unfold RB at this
  simpa only [hb] using this

theorem RV.ptr_inv {b i j g : Nat} {v : Value} (r : RV β M2 Z h (.ptr b i j g) v) (hg : (M2 b).gen = some g) : PtrOk (M2 b) (β b) i j v := by
  cases r with | ptr _ _ _ _ _ _ _ hh => exact (hh g hg).2 rfl
theorem RV.pa_inv {b j e n : Nat} {x : Int} {o : Nat} {v : Value} (r : RV β M2 Z h (.pa b j e n x o) v) (hg : (M2 b).gen = some 0) : PaOk (M2 b) (β b) j e n x o v := by
  cases r with | pa _ _ _ _ _ _ _ _ _ hh => exact hh 0 hg rfl
theorem RV.sl_inv {b i : Nat} {m : Option Nat} {g : Nat} {v : Value} (r : RV β M2 Z h (.sl b i m g) v) (hg : (M2 b).gen = some g) : SlOk (M2 b) (β b) i m v := by
  cases r with | sl _ _ _ _ _ _ _ hh => exact (hh g hg).2 rfl
theorem RV.sb_inv {b j s n : Nat} {v : Value} (r : RV β M2 Z h (.sb b j s n) v) (hg : (M2 b).gen = some 0) : SbOk (M2 b) (β b) j s n v := by
  cases r with | sb _ _ _ _ _ _ _ hh => exact hh 0 hg rfl
theorem RV.fz_inv {τ : Ty} {l : List τ.den} {v : Value} (r : RV β M2 Z h (.fz τ l) v) : RD h Z (.slice τ) l [v] := by
  cases r with | fz _ _ _ hd => exact hd

theorem mul_le_of_lt {x n e : Nat} (h : x < n) : x * e + e ≤ n * e := by
  have : (x + 1) * e ≤ n * e := Nat.mul_le_mul_right e h
  rw [Nat.add_mul] at this; omega

/-- loading: where the address leads, and what stands there -/
def At (h : Heap) (v : Value) (s : Nat) (vs : List Value) : Prop :=
  ∃ cb off c Te fz, v = .pointer (some ⟨cb, off, none⟩) ∧ h[cb]? = some (.cells c Te fz) ∧ off + s ≤ c.size ∧ vs = (c.toList.drop off).take s

theorem At.box (hm : RMem β M2 Z h) {b i j : Nat} {v : Value} {cells : List V} {s : Nat} (hb : M2 b = .box cells) (r : RV β M2 Z h (.ptr b i j 0) v) (hl : j + s ≤ cells.length) :
    ∃ vs, At h v s vs ∧ RL β M2 Z h ((cells.drop j).take s) vs := by
  obtain ⟨hi, cb, base, sz, top, e1, e2⟩ := r.ptr_inv (by simp [hb, Blk.gen])
  obtain ⟨cb', Te, c, f1, f2, f3⟩ := hm.box hb
  rw [f1] at e1
  simp only [Option.some.injEq, Loc.at.injEq] at e1
  obtain ⟨rfl, rfl, rfl, rfl⟩ := e1
  simp only [hb, Blk.cnt] at hi
  obtain rfl : i = 0 := by omega
  have hlen := f3.1
  simp at hlen
  refine ⟨_, ⟨cb', j, c, Te, _, by rw [e2]; simp, f2, by omega, rfl⟩, (f3.drop j).take s⟩

theorem At.row (hm : RMem β M2 Z h) {b i j g : Nat} {v : Value} {τ : Ty} {l : List τ.den} {ro : Bool} {s : Nat} (hb : M2 b = .row τ l g ro) (r : RV β M2 Z h (.ptr b i j g) v) (hl : j + s ≤ τ.size) :
    ∃ vs, At h v s vs ∧ RL β M2 Z h (((enc τ (l.getD i τ.dflt)).drop j).take s) vs := by
  obtain ⟨hi, cb, base, sz, top, e1, e2⟩ := r.ptr_inv (by simp [hb, Blk.gen])
  simp only [hb, Blk.cnt] at hi
  rcases hm.row hb with ⟨rfl, _⟩ | ⟨cb', base', Te, c, fz, f1, f2, f3, f4, f5, f6⟩
  · simp at hi
  · rw [f1] at e1
    simp only [Option.some.injEq, Loc.at.injEq] at e1
    obtain ⟨rfl, rfl, rfl, rfl⟩ := e1
    have hd := f5 i l[i] (by simp [hi])
    have hg : l.getD i τ.dflt = l[i] := by simp [List.getD, hi]
    have hle := mul_le_of_lt (e := τ.size) hi
    refine ⟨_, ⟨cb', base' + i * τ.size + j, c, Te, fz, e2, f2, by omega, rfl⟩, ?_⟩
    rw [hg]
    have := ((RL.of_RD (β := β) (M2 := M2) hd).drop j).take s
    rw [List.drop_take, List.take_take, Nat.min_eq_left (by omega), List.drop_drop] at this
    exact this

theorem At.pa (hm : RMem β M2 Z h) {b j e n : Nat} {x : Int} {oo : Nat} {v : Value} {cells : List V} {s : Nat} (hb : M2 b = .box cells) (r : RV β M2 Z h (.pa b j e n x oo) v) (ho : oo + s ≤ e) (hl : j + n * e ≤ cells.length) :
    ∃ vs, At h v s vs ∧ RL β M2 Z h (pick cells j e n x.toNat oo s) vs := by
  obtain ⟨h0, h1, h2, _, cb, base, sz, top, e1, e2⟩ := r.pa_inv (by simp [hb, Blk.gen])
  obtain ⟨cb', Te, c, f1, f2, f3⟩ := hm.box hb
  rw [f1] at e1
  simp only [Option.some.injEq, Loc.at.injEq] at e1
  obtain ⟨rfl, rfl, rfl, rfl⟩ := e1
  have hlen := f3.1
  simp at hlen
  have hx : x.toNat < n := by omega
  have hle := mul_le_of_lt (e := e) hx
  refine ⟨_, ⟨cb', j + x.toNat * e + oo, c, Te, _, by rw [e2]; simp, f2, by omega, rfl⟩, ?_⟩
  rw [pick_eq hx ho hl]
  exact (f3.drop _).take s

theorem At.fp {τ : Ty} {l : List τ.den} {i j : Nat} {v : Value} {s : Nat} (r : RV β M2 Z h (.fp τ l i j) v) (hl : j + s ≤ τ.size) :
    ∃ vs, At h v s vs ∧ RL β M2 Z h (((enc τ (l.getD i τ.dflt)).drop j).take s) vs := by
  cases r with
  | fp _ _ _ _ _ cb off c Te fz x hv hz hc hx ho hd =>
    have hg : l.getD i τ.dflt = x := by simp [List.getD, hx]
    refine ⟨_, ⟨cb, off + j, c, Te, fz, hv, hc, by omega, rfl⟩, ?_⟩
    rw [hg]
    have := ((RL.of_RD (β := β) (M2 := M2) hd).drop j).take s
    rw [List.drop_take, List.take_take, Nat.min_eq_left (by omega), List.drop_drop] at this
    exact this

theorem At.load {t : TypeId} {d : TypeDesc} {i : TypeInfo} (hd : P.underlying t = some d) (hi : P.info? t = some i) {w : World} {v : Value} {vs : List Value} (ha : At w.heap v i.size vs)
    (h1 : ((K.of d).agg || Nat.beq i.size 1) = true) : ∃ u, (Instr.loadAt t v).run P w = .ok u w ∧ isVal (K.of d).agg u vs := by
  obtain ⟨cb, off, c, Te, fz, rfl, hc, hs, rfl⟩ := ha
  obtain ⟨u, hu⟩ := isVal_exists (K.of d).agg (cs := (c.toList.drop off).take i.size) (fun ha => by
    rw [ha] at h1
    have h2 : i.size = 1 := by simpa using h1
    simp only [List.length_take, List.length_drop, Array.length_toList]; omega)
  refine ⟨u, ?_, hu⟩
  simp only [Instr.loadAt, Instr.sureAddr, Sem.run_bind, Sem.run_pure, Result.andThen_ok]
  exact run_loadVar' hd hi hc hs hu

theorem loadE_spec (hT : TOK P T) {t : TypeId} {a : V} {c : Eff → Option R} {r : R} (hr : loadE T M t a c = some r) :
    ∃ val fp, c { val := val, fp := fp } = some r ∧ ∀ (M2 : Mem), (∀ b ∈ fp, M2 b = M b) → ∀ (β : Nat → Option Loc) (Z : Nat → Prop) (w : World) (v : Value), RMem β M2 Z w.heap → RV β M2 Z w.heap a v →
      ∃ u, (Instr.loadAt t v).run P w = .ok u w ∧ RV β M2 Z w.heap val u := by
  have hkt : (T t).kind ≠ .bad := fun hk => by simp [loadE, hk] at hr
  obtain ⟨i, d, a1, a2, a3, a4, _⟩ := hT.info hkt
  have hr' : (bif (K.of d).agg || Nat.beq i.size 1 then
    match a with
    | .ptr b i' j g => match M b with
      | .box cells => bif Nat.beq i' 0 && Nat.beq g 0 && Nat.ble (j + i.size) cells.length then c { val := mkv (K.of d).agg ((cells.drop j).take i.size), fp := [b] } else none
      | .row τ l g' _ => bif Nat.beq g g' && Nat.ble (j + i.size) τ.size then c { val := mkv (K.of d).agg (((enc τ (l.getD i' τ.dflt)).drop j).take i.size), fp := [b] } else none
      | _ => none
    | .pa b j e n x o => match M b with
      | .box cells => bif Nat.ble (o + i.size) e && Nat.ble (j + n * e) cells.length then c { val := mkv (K.of d).agg (pick cells j e n x.toNat o i.size), fp := [b] } else none
      | _ => none
    | .fp τ l i' j => bif Nat.ble (j + i.size) τ.size then c { val := mkv (K.of d).agg (((enc τ (l.getD i' τ.dflt)).drop j).take i.size) } else none
    | _ => none
    else none) = some r := by
    unfold loadE at hr
    rw [← a3, ← a4]
    revert hr
    cases hk : (T t).kind <;> first | exact absurd hk hkt | exact id
  clear hr
  cases hone : ((K.of d).agg || Nat.beq i.size 1) with
  | false => rw [hone] at hr'; cases hr'
  | true =>
    rw [hone] at hr'
    simp only [cond_true] at hr'
    cases a <;> simp only [reduceCtorEq] at hr'
    case ptr b i' j g =>
      cases hb : M b <;> simp only [hb, reduceCtorEq] at hr'
      case box cells =>
        cases hq : (Nat.beq i' 0 && Nat.beq g 0 && Nat.ble (j + i.size) cells.length) with
        | false => rw [hq] at hr'; cases hr'
        | true =>
          rw [hq] at hr'
          simp only [Bool.and_eq_true] at hq
          obtain ⟨⟨q1, q2⟩, q3⟩ := hq
          have q2' := Nat.eq_of_beq_eq_true q2
          subst q2'
          refine ⟨_, _, hr', fun M2 hM β Z w v hm hv => ?_⟩
          have hb2 : M2 b = .box cells := by rw [hM b (by simp)]; exact hb
          obtain ⟨vs, ha, hl⟩ := At.box hm hb2 hv (Nat.le_of_ble_eq_true q3)
          obtain ⟨u, hu, hv⟩ := ha.load a2 a1 hone
          exact ⟨u, hu, mkv_ok hl hv⟩
      case row τ l g' ro =>
        cases hq : (Nat.beq g g' && Nat.ble (j + i.size) τ.size) with
        | false => rw [hq] at hr'; cases hr'
        | true =>
          rw [hq] at hr'
          simp only [Bool.and_eq_true] at hq
          obtain ⟨q2, q3⟩ := hq
          have q2' := Nat.eq_of_beq_eq_true q2
          subst q2'
          refine ⟨_, _, hr', fun M2 hM β Z w v hm hv => ?_⟩
          have hb2 : M2 b = .row τ l g ro := by rw [hM b (by simp)]; exact hb
          obtain ⟨vs, ha, hl⟩ := At.row hm hb2 hv (Nat.le_of_ble_eq_true q3)
          obtain ⟨u, hu, hv⟩ := ha.load a2 a1 hone
          exact ⟨u, hu, mkv_ok hl hv⟩
    case pa b j e n x oo =>
      cases hb : M b <;> simp only [hb, reduceCtorEq] at hr'
      rename_i cells
      cases hq : (Nat.ble (oo + i.size) e && Nat.ble (j + n * e) cells.length) with
      | false => rw [hq] at hr'; cases hr'
      | true =>
        rw [hq] at hr'
        simp only [Bool.and_eq_true] at hq
        obtain ⟨q2, q3⟩ := hq
        refine ⟨_, _, hr', fun M2 hM β Z w v hm hv => ?_⟩
        have hb2 : M2 b = .box cells := by rw [hM b (by simp)]; exact hb
        obtain ⟨vs, ha, hl⟩ := At.pa hm hb2 hv (Nat.le_of_ble_eq_true q2) (Nat.le_of_ble_eq_true q3)
        obtain ⟨u, hu, hv⟩ := ha.load a2 a1 hone
        exact ⟨u, hu, mkv_ok hl hv⟩
    case fp τ l i' j =>
      cases hq : (Nat.ble (j + i.size) τ.size) with
      | false => rw [hq] at hr'; cases hr'
      | true =>
        rw [hq] at hr'
        refine ⟨_, _, hr', fun M2 hM β Z w v hm hv => ?_⟩
        obtain ⟨vs, ha, hl⟩ := At.fp hv (Nat.le_of_ble_eq_true hq)
        obtain ⟨u, hu, hv⟩ := ha.load a2 a1 hone
        exact ⟨u, hu, mkv_ok hl hv⟩

theorem loadE_ok (hT : TOK P T) {t : TypeId} {x : Operand} (ho : o.op = .load t x) : SOp P o ev M (R := R) (loadE T M t (ev x)) := by
  intro c r hr
  obtain ⟨val, fp, h1, h2⟩ := loadE_spec hT hr
  refine ⟨_, OpOK.pure rfl fun M2 hM β Z a w hm hx => ?_, h1⟩
  obtain ⟨u, h3, h4⟩ := h2 M2 hM β Z w _ hm (hx x (by simp [ho, Op.operands]))
  exact ⟨u, by simp [execOp, ho, h3], h4⟩

end
end Go.Pv
