/-
  Stores.
-/
import Derived.Test.YtdfbjdchnkhiiaaDoorPvOk6
namespace Go.Pv
section
variable {P : Program} {T : TypeId → TT} {o : Oper} {ev : Operand → V} {M : Mem} {R : Type}
variable {β : Nat → Option Loc} {M2 : Mem} {Z : Nat → Prop} {h : Heap} {w : World}

/-- where a store leads: a block that may be written -/
theorem run_storeAt {t : TypeId} {i : TypeInfo} (hi : P.info? t = some i) {w : World} {cb off : Nat} {c : Array Value} {Te : TypeId} (hc : w.heap[cb]? = some (.cells c Te (0, 0)))
    {v : Value} (hv : v.cells.size = i.size) (hs : off + i.size ≤ c.size) (h1 : ∀ u ∈ v.cells.toList, u.oneCell' = true) :
    (Instr.storeAt t (.pointer (some ⟨cb, off, none⟩)) v).run P w = .ok () (w.setRow cb (c.toList.take off ++ v.cells.toList ++ c.toList.drop (off + v.cells.toList.length)).toArray) := by
  have hst := run_storeCells_at P cb off Te v.cells.toList 0 c w hc (by simp; omega) h1
  simp only [Nat.add_zero] at hst
  simp [Instr.storeAt, Instr.sureAddr, storeVar, run_sizeOf' hi, hv, hst]

theorem sel_true (a b : V) : V.sel true a b = a := by
  cases a <;> cases b <;> simp only [V.sel, cond_true]
  rename_i k x k' y
  cases decide (k = k') <;> rfl
theorem sel_false (a b : V) : V.sel false a b = b := by
  cases a <;> cases b <;> simp only [V.sel, cond_false]
  rename_i k x k' y
  by_cases e : k = k'
  · subst e; simp
  · simp [e]

theorem setPick_inner (p : Nat) (q : Bool) (new : List V) (f : Nat → Nat) (hf : ∀ r, f r = p + r) : ∀ (m : Nat) (cs : List V), p + m ≤ cs.length → m ≤ new.length →
    (List.range m).foldl (fun cs r => cs.set (f r) (V.sel q (new.getD r .dead) (cs.getD (f r) .dead))) cs = if q then setCells cs p (new.take m) else cs := by
  intro m
  induction m with
  | zero => intro cs _ _; cases q <;> simp [setCells]
  | succ m ih =>
    intro cs h1 h2
    rw [List.range_succ, List.foldl_append, ih cs (by omega) (by omega)]
    simp only [List.foldl_cons, List.foldl_nil, hf]
    cases q
    · simp only [Bool.false_eq_true, if_false, sel_false]
      apply List.ext_getElem?
      intro k
      rw [List.getElem?_set]
      split
      · rename_i e; subst e
        rw [if_pos (by omega)]
        simp [List.getD, show p + m < cs.length from by omega]
      · rfl
    · simp only [if_true, sel_true]
      unfold setCells
      have hl : (new.take m).length = m := by simp; omega
      have hl' : (new.take (m + 1)).length = m + 1 := by simp; omega
      have hg : new.getD m V.dead = new[m] := by simp [List.getD, show m < new.length from by omega]
      rw [hl, hl', hg]
      apply List.ext_getElem?
      intro k
      rw [List.getElem?_set]
      simp only [List.length_append, List.length_take, List.length_drop, List.getElem?_append, List.getElem?_take, List.getElem?_drop]
      have e0 : min p cs.length = p := by omega
      have e1 : min m new.length = m := by omega
      have e2 : min (m + 1) new.length = m + 1 := by omega
      simp only [e0, e1, e2]
      by_cases hk : p + m = k
      · subst hk
        simp only [if_true, show ¬ p + m < p from by omega, if_false, show p + m - p = m from by omega, show m < m + 1 from by omega, show p + m < p + (m + (cs.length - (p + m))) from by omega]
        simp [show m < new.length from by omega]
      · simp only [hk, if_false]
        by_cases h3 : k < p
        · simp only [h3, if_true]
        · simp only [h3, if_false]
          by_cases h4 : k - p < m
          · simp only [h4, show k - p < m + 1 from by omega, if_true]
          · simp only [h4, show ¬ k - p < m + 1 from by omega, if_false]
            congr 1; omega

theorem setCells_length (cs : List V) (p : Nat) (new : List V) (h : p + new.length ≤ cs.length) : (setCells cs p new).length = cs.length := by
  unfold setCells; simp; omega

theorem setPick_eq {cells : List V} {j e n x oo : Nat} {new : List V} (hx : x < n) (ho : oo + new.length ≤ e) (hl : j + n * e ≤ cells.length) :
    setPick cells j e n x oo new = setCells cells (j + x * e + oo) new := by
  have key : ∀ m, m ≤ n → (List.range m).foldl (fun cs q => (List.range new.length).foldl (fun cs r =>
      cs.set (j + q * e + (oo + r)) (V.sel (Nat.beq x q) (new.getD r .dead) (cs.getD (j + q * e + (oo + r)) .dead))) cs) cells = if x < m then setCells cells (j + x * e + oo) new else cells := by
    intro m
    induction m with
    | zero => intro _; simp
    | succ m ih =>
      intro hm
      rw [List.range_succ, List.foldl_append, ih (by omega)]
      simp only [List.foldl_cons, List.foldl_nil]
      have hle := mul_le_of_lt (x := m) (n := n) (e := e) (by omega)
      have hle2 := mul_le_of_lt (x := x) (n := n) (e := e) hx
      have hlen : (if x < m then setCells cells (j + x * e + oo) new else cells).length = cells.length := by
        split
        · exact setCells_length _ _ _ (by omega)
        · rfl
      rw [setPick_inner (j + m * e + oo) (Nat.beq x m) new (fun r => j + m * e + (oo + r)) (fun r => by omega) new.length _ (by rw [hlen]; omega) (Nat.le_refl _)]
      by_cases hxm : x = m
      · subst hxm
        simp
      · have hb : Nat.beq x m = false := by
          cases e : Nat.beq x m with
          | false => rfl
          | true => exact absurd (Nat.eq_of_beq_eq_true e) hxm
        simp only [hb, Bool.false_eq_true, if_false]
        by_cases h3 : x < m
        · simp [h3, show x < m + 1 from by omega]
        · simp [h3, show ¬ x < m + 1 from by omega]
  have := key n (Nat.le_refl _)
  rw [if_pos hx] at this
  exact this

/-- writing cells into a box -/
theorem box_write (hm : RMem β M2 Z w.heap) {b : Nat} {cells : List V} (hb : M2 b = .box cells) {p : Nat} {new : List V} {nv : List Value} (hn : RL β M2 Z w.heap new nv) (hp : p + new.length ≤ cells.length)
    {cb : Nat} {c : Array Value} {Te : TypeId} (hβ : β b = some (.at cb 0 1 c.size)) (hc : w.heap[cb]? = some (.cells c Te (0, 0))) (hr : RL β M2 Z w.heap cells c.toList) :
    RMem β (M2.upd b (.box (setCells cells p new))) Z (w.setRow cb (c.toList.take p ++ nv ++ c.toList.drop (p + nv.length)).toArray).heap ∧
    Ev β M2 Z w.heap β (M2.upd b (.box (setCells cells p new))) Z (w.setRow cb (c.toList.take p ++ nv ++ c.toList.drop (p + nv.length)).toArray).heap := by
  have hlen := hr.1
  simp at hlen
  have hnl := hn.1
  have hsz : (w.setRow cb (c.toList.take p ++ nv ++ c.toList.drop (p + nv.length)).toArray).heap.size = w.heap.size := by simp [World.setRow]
  have hoth : ∀ x, Loc.blk? (β b) ≠ some x → (w.setRow cb (c.toList.take p ++ nv ++ c.toList.drop (p + nv.length)).toArray).heap[x]? = w.heap[x]? := by
    intro x hx
    rw [hβ] at hx
    exact setRow_other w cb x _ (fun e => hx (by simp [Loc.blk?, e]))
  have hgl : (Blk.box (setCells cells p new)).len = (M2 b).len := by simp only [hb, Blk.len]; exact setCells_length _ _ _ hp
  have hgen : (Blk.box (setCells cells p new)).gen = (M2 b).gen := by simp [hb, Blk.gen]
  have ho : (M2 b).own = true := by simp [hb, Blk.own]
  have hl : Loc.blk? (β b) = some cb ∨ β b = some .virt := .inl (by rw [hβ]; rfl)
  have hcnt : (Blk.box (setCells cells p new)).cnt = (M2 b).cnt := by simp [hb, Blk.cnt]
  have hbox : (Blk.box (setCells cells p new)).isBox = (M2 b).isBox := by simp [hb, Blk.isBox]
  have ev := wr_ev hm ho hl hgen hgl hcnt hbox hsz hoth
  refine ⟨wr_mem hm ho hl hgen hgl hcnt hbox hsz hoth ?_, ev⟩
  unfold RB
  simp only [upd_same]
  have h3 : (c.toList.take p ++ nv ++ c.toList.drop (p + nv.length)).toArray.size = c.size := by simp; omega
  refine ⟨cb, Te, _, by rw [hβ, h3], setRow_heap w cb c _ Te _ hc, ?_, ?_⟩
  · rw [h3, setCells_length _ _ _ hp]; omega
  · have := (RL.setCells hr p hn).mono ev.toGrow
    have h4 : RL β (M2.upd b (.box (setCells cells p new))) Z (w.setRow cb (c.toList.take p ++ nv ++ c.toList.drop (p + nv.length)).toArray).heap (setCells cells p new) (c.toList.take p ++ nv ++ c.toList.drop (p + nv.length)).toArray.toList := by
      simpa using this
    exact h4.to_arr.2

/-- writing cells into an element of a row -/
theorem row_write (hm : RMem β M2 Z w.heap) {b : Nat} {τ : Ty} {l : List τ.den} {g : Nat} (hb : M2 b = .row τ l g false) {i j : Nat} (hi : i < l.length) {nv : List Value} (hj : j + nv.length ≤ τ.size)
    {cb base : Nat} {c : Array Value} {Te : TypeId} (hβ : β b = some (.at cb base τ.size c.size)) (hc : w.heap[cb]? = some (.cells c Te (0, 0)))
    (hfit : base + l.length * τ.size ≤ c.size) (hr : ∀ i x, l[i]? = some x → RD w.heap Z τ x ((c.toList.drop (base + i * τ.size)).take τ.size))
    {y : τ.den} (hy : RD w.heap Z τ y (((c.toList.drop (base + i * τ.size)).take τ.size).take j ++ (nv ++ ((c.toList.drop (base + i * τ.size)).take τ.size).drop (j + nv.length)))) :
    RMem β (M2.upd b (.row τ (l.set i y) g false)) Z (w.setRow cb (c.toList.take (base + i * τ.size + j) ++ nv ++ c.toList.drop (base + i * τ.size + j + nv.length)).toArray).heap ∧
    Ev β M2 Z w.heap β (M2.upd b (.row τ (l.set i y) g false)) Z (w.setRow cb (c.toList.take (base + i * τ.size + j) ++ nv ++ c.toList.drop (base + i * τ.size + j + nv.length)).toArray).heap := by
  generalize hp : base + i * τ.size + j = p at *
  have hle := mul_le_of_lt (e := τ.size) hi
  have hsz : (w.setRow cb (c.toList.take p ++ nv ++ c.toList.drop (p + nv.length)).toArray).heap.size = w.heap.size := by simp [World.setRow]
  have hoth : ∀ x, Loc.blk? (β b) ≠ some x → (w.setRow cb (c.toList.take p ++ nv ++ c.toList.drop (p + nv.length)).toArray).heap[x]? = w.heap[x]? := by
    intro x hx
    rw [hβ] at hx
    exact setRow_other w cb x _ (fun e => hx (by simp [Loc.blk?, e]))
  have hgl : (Blk.row τ (l.set i y) g false).len = (M2 b).len := by simp [hb, Blk.len]
  have hgen : (Blk.row τ (l.set i y) g false).gen = (M2 b).gen := by simp [hb, Blk.gen]
  have ho : (M2 b).own = true := by simp [hb, Blk.own]
  have hl : Loc.blk? (β b) = some cb ∨ β b = some .virt := .inl (by rw [hβ]; rfl)
  have hcnt : (Blk.row τ (l.set i y) g false).cnt = (M2 b).cnt := by simp [hb, Blk.cnt]
  have hbox : (Blk.row τ (l.set i y) g false).isBox = (M2 b).isBox := by simp [hb, Blk.isBox]
  have ev := wr_ev hm ho hl hgen hgl hcnt hbox hsz hoth
  refine ⟨wr_mem hm ho hl hgen hgl hcnt hbox hsz hoth ?_, ev⟩
  unfold RB
  simp only [upd_same]
  have h3 : (c.toList.take p ++ nv ++ c.toList.drop (p + nv.length)).toArray.size = c.size := by simp; omega
  refine .inr ⟨cb, base, Te, _, (0, 0), by rw [hβ, h3], setRow_heap w cb c _ Te _ hc, by simp, by rw [h3]; simpa using hfit, ?_, by simp⟩
  intro k x hx
  rw [List.getElem?_set] at hx
  have hclen : c.toList.length = c.size := Array.length_toList
  split at hx
  · rename_i e
    subst e
    cases hx
    refine RD.mono ev.zkeep ev.zmono ?_
    refine (congrArg (RD w.heap Z τ y) ?_).mpr hy
    apply List.ext_getElem?
    intro q
    simp only [List.getElem?_take, List.getElem?_drop, List.getElem?_append, List.length_take, List.length_drop, List.length_append, hclen]
    have e1 : min p c.size = p := by omega
    have e2 : min j (min τ.size (c.size - (base + i * τ.size))) = j := by omega
    simp only [e1, e2]
    by_cases hq : q < τ.size
    · simp only [hq, if_true]
      by_cases h4 : q < j
      · simp only [h4, if_true, show base + i * τ.size + q < p + nv.length from by omega, show base + i * τ.size + q < p from by omega]
      · simp only [h4, if_false]
        by_cases h5 : q - j < nv.length
        · simp only [h5, if_true, show base + i * τ.size + q < p + nv.length from by omega, show ¬ base + i * τ.size + q < p from by omega, if_false]
          congr 1; omega
        · simp only [h5, if_false, show ¬ base + i * τ.size + q < p + nv.length from by omega]
          rw [if_pos (by omega)]
          congr 1; omega
    · simp only [hq, if_false]
      simp only [show ¬ q < j from by omega, if_false, show ¬ q - j < nv.length from by omega]
      rw [if_neg (by omega)]
  · rename_i hne
    have hk : k < l.length := (List.getElem?_eq_some_iff.1 hx).1
    refine RD.mono ev.zkeep ev.zmono ?_
    have h4 := hr k x hx
    refine (congrArg (RD w.heap Z τ x) ?_).mpr h4
    have hlek := mul_le_of_lt (e := τ.size) hk
    have hdis : (k + 1) * τ.size ≤ i * τ.size ∨ (i + 1) * τ.size ≤ k * τ.size := by
      rcases Nat.lt_or_gt_of_ne hne with h5 | h5
      · exact .inr (Nat.mul_le_mul_right _ h5)
      · exact .inl (Nat.mul_le_mul_right _ h5)
    rw [Nat.add_mul, Nat.add_mul] at hdis
    apply List.ext_getElem?
    intro q
    simp only [List.getElem?_take, List.getElem?_drop, List.getElem?_append, List.length_take, List.length_append, hclen]
    have e1 : min p c.size = p := by omega
    simp only [e1]
    by_cases hq : q < τ.size
    · simp only [hq, if_true]
      by_cases h5 : base + k * τ.size + q < p
      · simp only [h5, if_true, show base + k * τ.size + q < p + nv.length from by omega]
      · simp only [show ¬ base + k * τ.size + q < p + nv.length from by omega, if_false]
        congr 1; omega
    · simp only [hq, if_false]

theorem storeE_ok (hT : TOK P T) {t : TypeId} {x y : Operand} (ho : o.op = .store t x y) : SOp P o ev M (R := R) (storeE T M t (ev x) (ev y)) := by
  intro c r hr
  unfold storeE at hr
  have hkt : (T t).kind ≠ .bad := fun hk => by simp [hk] at hr
  obtain ⟨i1, d1, a1, a2, a3, a4, _⟩ := hT.info hkt
  cases hcs : (ev y).cells? with
  | none => revert hr; cases (T t).kind <;> simp [hcs]
  | some new =>
    have hr' : (bif Nat.beq new.length i1.size && new.all V.flat then
      match ev x with
      | .ptr b i j g => match M b with
        | .box cells => bif Nat.beq i 0 && Nat.beq g 0 && Nat.ble (j + i1.size) cells.length then c { val := .dead, upd := [(b, .box (setCells cells j new))], fp := [b] } else none
        | .row τ l g' ro => bif Nat.beq g g' && Nat.ble (j + i1.size) τ.size && !ro then
            match dec τ (setCells (enc τ (l.getD i τ.dflt)) j new) with
            | some (y, []) => c { val := .dead, upd := [(b, .row τ (l.set i y) g' ro)], fp := [b] }
            | _ => none
          else none
        | _ => none
      | .pa b j e n x o => match M b with
        | .box cells => bif Nat.ble (o + i1.size) e && Nat.ble (j + n * e) cells.length then c { val := .dead, upd := [(b, .box (setPick cells j e n x.toNat o new))], fp := [b] } else none
        | _ => none
      | _ => none
      else none) = some r := by
      rw [← a4]; rw [hcs] at hr; revert hr; cases hk : (T t).kind <;> first | exact absurd hk hkt | exact fun hh => hh
    clear hr
    cases hq : (Nat.beq new.length i1.size && new.all V.flat) with
    | false => rw [hq] at hr'; cases hr'
    | true =>
      rw [hq] at hr'
      simp only [cond_true] at hr'
      obtain ⟨q1, q2⟩ := (Bool.and_eq_true _ _).mp hq
      have q1' := Nat.eq_of_beq_eq_true q1
      -- what is stored
      have hnew : ∀ {β : Nat → Option Loc} {M2 : Mem} {Z : Nat → Prop} {h : Heap} {a : Act}, RV β M2 Z h (ev y) (a.eval y) → RL β M2 Z h new (a.eval y).cells.toList ∧ (a.eval y).cells.size = i1.size ∧ ∀ u ∈ (a.eval y).cells.toList, u.oneCell' = true := by
        intro β M2 Z h a hv
        have h1 := cells_ok hcs hv
        refine ⟨h1, ?_, flats_ok q2 h1⟩
        have := h1.1; simp at this; omega
      have fin : ∀ {a : Act} {w : World} {cb off : Nat} {c : Array Value} {Te : TypeId}, a.eval x = .pointer (some ⟨cb, off, none⟩) → w.heap[cb]? = some (.cells c Te (0, 0)) → (a.eval y).cells.size = i1.size → off + i1.size ≤ c.size →
          (∀ u ∈ (a.eval y).cells.toList, u.oneCell' = true) → (execOp a.eval o).run P w = .ok .skip (w.setRow cb (c.toList.take off ++ (a.eval y).cells.toList ++ c.toList.drop (off + (a.eval y).cells.toList.length)).toArray) := by
        intro a w cb off c Te e1 hc hv hs h1
        have := run_storeAt (P := P) a1 hc hv hs h1
        simp only [execOp, ho, e1, Sem.run_bind, this, Result.andThen_ok, Sem.run_pure]
      cases hx : ev x <;> simp only [hx, reduceCtorEq] at hr'
      case ptr b i j g =>
        cases hb : M b <;> simp only [hb, reduceCtorEq] at hr'
        case box cells =>
          cases hq : (Nat.beq i 0 && Nat.beq g 0 && Nat.ble (j + i1.size) cells.length) with
          | false => rw [hq] at hr'; cases hr'
          | true =>
            rw [hq] at hr'
            simp only [cond_true] at hr'
            simp only [Bool.and_eq_true] at hq
            have r2 := Nat.eq_of_beq_eq_true hq.1.2
            have r3 := Nat.le_of_ble_eq_true hq.2
            subst r2
            refine ⟨_, OpOK.of_run (by simp) fun M2 hM β Z a w hm hxs => ?_, hr'⟩
            have p1 := hxs x (by simp [ho, Op.operands])
            rw [hx] at p1
            obtain ⟨n1, n2, n3⟩ := hnew (hxs y (by simp [ho, Op.operands]))
            have hb2 : M2 b = .box cells := by rw [hM b (by simp)]; exact hb
            obtain ⟨hi, cb, base, sz, top, e1, e2⟩ := p1.ptr_inv (by simp [hb2, Blk.gen])
            obtain ⟨cb', Te, c', f1, f2, f3⟩ := hm.box hb2
            rw [f1] at e1
            simp only [Option.some.injEq, Loc.at.injEq] at e1
            obtain ⟨rfl, rfl, rfl, rfl⟩ := e1
            simp only [hb2, Blk.cnt] at hi
            obtain rfl : i = 0 := by omega
            have hlen := f3.1; simp at hlen
            have e2' : a.eval x = .pointer (some ⟨cb', j, none⟩) := by rw [e2]; simp
            obtain ⟨k1, k2⟩ := box_write hm hb2 n1 (p := j) (by omega) f1 f2 f3
            exact ⟨undef, _, β, Z, .inr ⟨fin e2' f2 n2 (by omega) n3, rfl⟩, .dead _, k1, k2, Wd.setRow _ _ _⟩
        case row τ l g' ro =>
          cases hq : (Nat.beq g g' && Nat.ble (j + i1.size) τ.size && !ro) with
          | false => rw [hq] at hr'; cases hr'
          | true =>
            rw [hq] at hr'
            simp only [cond_true] at hr'
            simp only [Bool.and_eq_true, Bool.not_eq_true'] at hq
            have r1 := Nat.eq_of_beq_eq_true hq.1.1
            have r2 := Nat.le_of_ble_eq_true hq.1.2
            have r3 := hq.2
            subst r1; subst r3
            split at hr'
            · rename_i yy hdec
              refine ⟨_, OpOK.of_run (by simp) fun M2 hM β Z a w hm hxs => ?_, hr'⟩
              have p1 := hxs x (by simp [ho, Op.operands])
              rw [hx] at p1
              obtain ⟨n1, n2, n3⟩ := hnew (hxs y (by simp [ho, Op.operands]))
              have hb2 : M2 b = .row τ l g false := by rw [hM b (by simp)]; exact hb
              obtain ⟨hi, cb, base, sz, top, e1, e2⟩ := p1.ptr_inv (by simp [hb2, Blk.gen])
              simp only [hb2, Blk.cnt] at hi
              rcases hm.row hb2 with ⟨rfl, _⟩ | ⟨cb', base', Te, c', fz, f1, f2, f3, f4, f5, f6⟩
              · simp at hi
              · rw [f1] at e1
                simp only [Option.some.injEq, Loc.at.injEq] at e1
                obtain ⟨rfl, rfl, rfl, rfl⟩ := e1
                have hfz := f3 rfl
                subst hfz
                have hgl : l.getD i τ.dflt = l[i] := by simp [List.getD, hi]
                rw [hgl] at hdec
                have hd0 := f5 i l[i] (by simp [hi])
                have hle := mul_le_of_lt (e := τ.size) hi
                have hw := (RL.setCells (RL.of_RD (β := β) (M2 := M2) hd0) j n1)
                have hnl := n1.1
                have hy := (dec_ok hdec hw).1
                have hlen : (List.take j (List.take τ.size (List.drop (base' + i * τ.size) c'.toList)) ++ ((a.eval y).cells.toList ++ List.drop (j + (a.eval y).cells.toList.length) (List.take τ.size (List.drop (base' + i * τ.size) c'.toList)))).length = τ.size := by
                  simp; simp at hnl; omega
                rw [List.take_of_length_le (by omega)] at hy
                obtain ⟨k1, k2⟩ := row_write hm hb2 hi (nv := (a.eval y).cells.toList) (by simp; omega) f1 f2 f4 f5 hy
                exact ⟨undef, _, β, Z, .inr ⟨fin e2 f2 n2 (by omega) n3, rfl⟩, .dead _, k1, k2, Wd.setRow _ _ _⟩
            · cases hr'
      case pa b j e n xx oo =>
        cases hb : M b <;> simp only [hb, reduceCtorEq] at hr'
        rename_i cells
        cases hq : (Nat.ble (oo + i1.size) e && Nat.ble (j + n * e) cells.length) with
        | false => rw [hq] at hr'; cases hr'
        | true =>
          rw [hq] at hr'
          simp only [cond_true] at hr'
          simp only [Bool.and_eq_true] at hq
          have r2 := Nat.le_of_ble_eq_true hq.1
          have r3 := Nat.le_of_ble_eq_true hq.2
          -- the index is in range wherever the address stands for one; else the effect says nothing
          by_cases hin : 0 ≤ xx ∧ xx < n
          · have hxn : xx.toNat < n := by omega
            rw [setPick_eq hxn (by omega) r3] at hr'
            refine ⟨_, OpOK.of_run (by simp) fun M2 hM β Z a w hm hxs => ?_, hr'⟩
            have p1 := hxs x (by simp [ho, Op.operands])
            rw [hx] at p1
            obtain ⟨n1, n2, n3⟩ := hnew (hxs y (by simp [ho, Op.operands]))
            have hb2 : M2 b = .box cells := by rw [hM b (by simp)]; exact hb
            obtain ⟨_, _, _, _, cb, base, sz, top, e1, e2⟩ := p1.pa_inv (by simp [hb2, Blk.gen])
            obtain ⟨cb', Te, c', f1, f2, f3⟩ := hm.box hb2
            rw [f1] at e1
            simp only [Option.some.injEq, Loc.at.injEq] at e1
            obtain ⟨rfl, rfl, rfl, rfl⟩ := e1
            have hlen := f3.1; simp at hlen
            have hle := mul_le_of_lt (e := e) hxn
            have e2' : a.eval x = .pointer (some ⟨cb', j + xx.toNat * e + oo, none⟩) := by rw [e2]; simp
            obtain ⟨k1, k2⟩ := box_write hm hb2 n1 (p := j + xx.toNat * e + oo) (by omega) f1 f2 f3
            exact ⟨undef, _, β, Z, .inr ⟨fin e2' f2 n2 (by omega) n3, rfl⟩, .dead _, k1, k2, Wd.setRow _ _ _⟩
          · refine ⟨_, OpOK.of_run (by simp) fun M2 hM β Z a w hm hxs => ?_, hr'⟩
            have p1 := hxs x (by simp [ho, Op.operands])
            rw [hx] at p1
            have hb2 : M2 b = .box cells := by rw [hM b (by simp)]; exact hb
            obtain ⟨z1, z2, _⟩ := p1.pa_inv (by simp [hb2, Blk.gen])
            exact absurd ⟨z1, z2⟩ hin

end
end Go.Pv
