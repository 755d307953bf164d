/-
  Operations without memory: unary ones, conversions, closures, parts of aggregates, min and max.
-/
import Derived.Test.YtdfbjdchnkhiiaaDoorPvOk1
namespace Go.Pv
section
variable {P : Program} {T : TypeId → TT} {o : Oper} {ev : Operand → V} {M : Mem} {R : Type}
variable {β : Nat → Option Loc} {M2 : Mem} {Z : Nat → Prop} {h : Heap}

theorem unE_ok {op : UnOp} {t : TypeId} {x : Operand} (ho : o.op = .unOp op t x) : SOp P o ev M (R := R) (unE op (ev x)) := by
  intro c r hr
  have key : ∀ val, c { val := val } = some r → (∀ (vx : Value) (β : Nat → Option Loc) (M2 : Mem) (Z : Nat → Prop) (w : World), RV β M2 Z w.heap (ev x) vx →
      ∃ v, (Op.unary op vx).run P w = .ok v w ∧ RV β M2 Z w.heap val v) → ∃ eff, OpOK P o ev M eff ∧ c eff = some r := by
    intro val hc hv
    refine ⟨_, OpOK.pure rfl fun M2 _ β Z a w hm hx => ?_, hc⟩
    obtain ⟨v, h1, h2⟩ := hv (a.eval x) β M2 Z w (hx x (by simp [ho, Op.operands]))
    exact ⟨v, by simp [execOp, ho, h1], h2⟩
  unfold unE at hr
  cases hx : ev x <;> cases op <;> simp only [hx, reduceCtorEq] at hr key
  · exact key _ hr fun vx β M2 Z w q => by rw [q.bool_inv]; exact ⟨_, by simp only [Op.unary]; rfl, .bool _⟩
  · exact key _ hr fun vx β M2 Z w q => by rw [q.int_inv]; exact ⟨_, by simp only [Op.unary, Op.intArith]; rfl, .int _ _⟩
  · exact key _ hr fun vx β M2 Z w q => by rw [q.int_inv]; exact ⟨_, by simp only [Op.unary, Op.intBits]; rfl, .int _ _⟩

theorem convE_ok (hT : TOK P T) {s d : TypeId} {x : Operand} (ho : o.op = .convert s d x) : SOp P o ev M (R := R) (convE T s d (ev x)) := by
  intro c r hr
  have hks : (T s).kind ≠ .bad := fun hk => by simp [convE, hk] at hr
  obtain ⟨i1, d1, a1, a2, _⟩ := hT.info hks
  have hr' : (match (T d).kind, ev x with
    | .int k, .int _ n => c { val := .int k (k.wrap n) }
    | .str, .str s => c { val := .str s }
    | _, _ => none) = some r := by
    unfold convE at hr; revert hr; cases (T s).kind <;> first | exact id | (intro hh; cases hh)
  have hkd : (T d).kind ≠ .bad := fun hk => by simp [hk] at hr'
  obtain ⟨i2, d2, b1, b2, b3, _⟩ := hT.info hkd
  rw [b3] at hr'
  cases d2 <;> cases hx : ev x <;> simp only [K.of, hx, reduceCtorEq] at hr'
  case int.int k k' n =>
    refine ⟨_, OpOK.pure rfl fun M2 _ β Z a w hm hxs => ?_, hr'⟩
    have q := hxs x (by simp [ho, Op.operands])
    rw [hx] at q
    refine ⟨_, ?_, .int _ _⟩
    simp [execOp, ho, q.int_inv, convert, run_underlying a2, run_underlying b2, Conv.intToInt]
  case string.str st =>
    refine ⟨_, OpOK.pure rfl fun M2 _ β Z a w hm hxs => ?_, hr'⟩
    have q := hxs x (by simp [ho, Op.operands])
    rw [hx] at q
    refine ⟨_, ?_, .str _⟩
    simp [execOp, ho, q.str_inv, convert, run_underlying a2, run_underlying b2]

theorem RL.map_ops {ops : List Operand} {a : Act} (hx : ∀ x ∈ ops, RV β M2 Z h (ev x) (a.eval x)) : RL β M2 Z h (ops.map ev) (ops.map a.eval) := by
  induction ops with
  | nil => exact RL.nil
  | cons x l ih => exact RL.cons (hx x (by simp)) (ih fun y hy => hx y (by simp [hy]))

theorem makeFunc_ok {f : FuncId} {first cap : Array Operand} (ho : o.op = .makeFunc (.func f) first cap) (hf : first.isEmpty = true) :
    SOp P o ev M (R := R) fun c => c { val := .fn f (cap.toList.map ev) } := by
  intro c r hr
  refine ⟨_, OpOK.pure rfl fun M2 _ β Z a w hm hx => ?_, hr⟩
  have hf' : first = #[] := by simpa using hf
  subst hf'
  have hl : RL β M2 Z w.heap (cap.toList.map ev) (cap.map a.eval).toList := by
    rw [Array.toList_map]
    exact RL.map_ops fun x hxx => hx x (by simp [ho, Op.operands, hxx])
  refine ⟨.func (.func f) #[] (cap.map a.eval), by simp [execOp, ho, Instr.makeFunc], ?_⟩
  obtain ⟨h1, h2⟩ := hl.to_arr
  exact .fn f _ _ h1 h2

theorem extract_ok {x : Operand} {i : Nat} (ho : o.op = .extract x i) {vs : List V} (hx : ev x = .tup vs) {v : V} (hv : vs[i]? = some v) :
    SOp P o ev M (R := R) fun c => c { val := v } := by
  intro c r hr
  refine ⟨_, OpOK.pure rfl fun M2 _ β Z a w hm hxs => ?_, hr⟩
  have q := hxs x (by simp [ho, Op.operands])
  rw [hx] at q
  obtain ⟨us, e, hl, hc⟩ := q.tup_inv
  obtain ⟨hi, rfl⟩ := List.getElem?_eq_some_iff.1 hv
  have hi' : i < us.size := by omega
  refine ⟨us[i], ?_, ?_⟩
  · simp [execOp, ho, e, Instr.extract, hi']
  · have := hc i hi
    simpa [Array.getD_eq_getD_getElem?, hi'] using this

/-! ### Columns -/
theorem ints?_spec {k : IntKind} : ∀ {col : List V} {l : List Int}, ints? k col = some l → col = l.map (V.int k)
  | [], l, hh => by simp only [ints?, Option.some.injEq] at hh; subst hh; rfl
  | v :: r, l, hh => by
    cases v <;> simp only [ints?, reduceCtorEq] at hh
    rename_i k' n
    by_cases e : k' = k
    · subst e
      simp only [decide_true, cond_true] at hh
      split at hh
      · rename_i l' hl'; cases hh; rw [ints?_spec hl']; rfl
      · cases hh
    · simp [e] at hh

theorem bools?_spec : ∀ {col : List V} {l : List Bool}, bools? col = some l → col = l.map V.bool
  | [], l, hh => by simp only [bools?, Option.some.injEq] at hh; subst hh; rfl
  | v :: r, l, hh => by
    cases v <;> simp only [bools?, reduceCtorEq] at hh
    split at hh
    · rename_i l' hl'; cases hh; rw [bools?_spec hl']; rfl
    · cases hh

theorem strs?_spec : ∀ {col : List V} {l : List ByteArray}, strs? col = some l → col = l.map V.str
  | [], l, hh => by simp only [strs?, Option.some.injEq] at hh; subst hh; rfl
  | v :: r, l, hh => by
    cases v <;> simp only [strs?, reduceCtorEq] at hh
    split at hh
    · rename_i l' hl'; cases hh; rw [strs?_spec hl']; rfl
    · cases hh

theorem at_eq (x : Nat) (col : List V) (hx : x < col.length) : V.at x col = col[x] := by
  have gen : col.getD x V.dead = col[x] := by simp [List.getD, hx]
  unfold V.at
  split
  · split
    · rename_i l hl
      have e := ints?_spec hl
      have hx' : x < l.length := by rw [e] at hx; simpa using hx
      rw [List.getElem_of_eq e]
      simp [List.getD, hx']
    · exact gen
  · split
    · rename_i l hl
      have e := bools?_spec hl
      have hx' : x < l.length := by rw [e] at hx; simpa using hx
      rw [List.getElem_of_eq e]
      simp [List.getD, hx']
    · exact gen
  · split
    · rename_i l hl
      have e := strs?_spec hl
      have hx' : x < l.length := by rw [e] at hx; simpa using hx
      rw [List.getElem_of_eq e]
      simp [List.getD, hx']
    · exact gen
  · exact gen

theorem pick_eq {cells : List V} {j e n x o s : Nat} (hx : x < n) (ho : o + s ≤ e) (hl : j + n * e ≤ cells.length) :
    pick cells j e n x o s = (cells.drop (j + x * e + o)).take s := by
  have hxe : x * e + e ≤ n * e := by
    have : (x + 1) * e ≤ n * e := Nat.mul_le_mul_right e hx
    rw [Nat.add_mul] at this; omega
  apply List.ext_getElem
  · simp [pick]; omega
  · intro r h1 h2
    have hr : r < s := by simpa [pick] using h1
    simp only [pick, List.getElem_map, List.getElem_range, List.getElem_take, List.getElem_drop]
    rw [at_eq _ _ (by simpa using hx)]
    simp only [List.getElem_map, List.getElem_range]
    have : j + (x * e + (o + r)) < cells.length := by omega
    simp [List.getD, this, Nat.add_assoc]

theorem mkv_ok {agg : Bool} {cells : List V} {vs : List Value} {v : Value} (hr : RL β M2 Z h cells vs) (hv : isVal agg v vs) : RV β M2 Z h (mkv agg cells) v := by
  unfold mkv isVal at *
  cases agg
  · simp only [Bool.false_eq_true, if_false] at hv
    subst hv
    obtain ⟨hl, hc⟩ := hr
    cases cells with
    | nil => simp at hl
    | cons c r => simpa using hc 0 c v (by simp) (by simp)
  · simp only [if_true] at hv
    subst hv
    obtain ⟨h1, h2⟩ := (show RL β M2 Z h cells vs.toArray.toList by simpa using hr).to_arr
    exact .agg _ _ h1 h2

theorem fieldE_ok (hT : TOK P T) {s : TypeId} {x : Operand} {f : Nat} (ho : o.op = .field s x f) : SOp P o ev M (R := R) (fieldE T s (ev x) f) := by
  intro c r hr
  unfold fieldE at hr
  have hks : (T s).kind ≠ .bad := fun hk => by simp [hk] at hr
  obtain ⟨i1, d1, a1, a2, a3, _⟩ := hT.info hks
  rw [a3] at hr
  cases d1 <;> cases hx : ev x <;> simp only [K.of, hx, reduceCtorEq] at hr
  rename_i fs cs
  simp only [List.getElem?_map, Array.getElem?_toList] at hr
  cases hf : fs[f]? with
  | none => simp [hf] at hr
  | some q =>
    simp only [hf, Option.map_some] at hr
    have hkq : (T q.type).kind ≠ .bad := fun hk => by simp [hk] at hr
    obtain ⟨i2, d2, b1, b2, b3, b4, _⟩ := hT.info hkq
    have hr' : (bif Nat.ble (q.offset + i2.size) cs.length && ((K.of d2).agg || Nat.beq i2.size 1) then c { val := mkv (K.of d2).agg ((cs.drop q.offset).take i2.size) } else none) = some r := by
      rw [b3, b4] at hr
      revert hr; rw [b3] at hkq; cases hkk : K.of d2 <;> simp_all
    cases hb : (Nat.ble (q.offset + i2.size) cs.length && ((K.of d2).agg || Nat.beq i2.size 1)) with
    | false => rw [hb] at hr'; cases hr'
    | true =>
      rw [hb] at hr'
      simp only [cond_true] at hr'
      obtain ⟨hb1, hb2⟩ := (Bool.and_eq_true _ _).mp hb
      have hb1' := Nat.le_of_ble_eq_true hb1
      refine ⟨_, OpOK.pure rfl fun M2 _ β Z a w hm hxs => ?_, hr'⟩
      have q0 := hxs x (by simp [ho, Op.operands])
      rw [hx] at q0
      obtain ⟨vs, e, hl⟩ := q0.agg_RL
      have hl2 := (hl.drop q.offset).take i2.size
      obtain ⟨v, hv⟩ := isVal_exists (K.of d2).agg (cs := (vs.drop q.offset).take i2.size) (fun ha => by
        have h1 := hl.1
        rw [ha] at hb2
        have h2 : i2.size = 1 := by simpa using hb2
        simp only [List.length_take, List.length_drop]; omega)
      refine ⟨v, ?_, mkv_ok hl2 hv⟩
      have p := run_part' b2 b1 (xs := vs.toArray) w (by simpa using hv)
      simp [execOp, ho, e, Instr.field, run_underlying a2, hf, asAgg, p]

theorem inRange_iff {x : Int} {n : Nat} : inRange x n = true ↔ 0 ≤ x ∧ x < n := by simp [inRange]

theorem indexE_ok (hT : TOK P T) {t : TypeId} {x y : Operand} (ho : o.op = .index t x y) : SOp P o ev M (R := R) (indexE T t (ev x) (ev y)) := by
  intro c r hr
  unfold indexE at hr
  have hkt : (T t).kind ≠ .bad := fun hk => by simp [hk] at hr
  obtain ⟨i1, d1, a1, a2, a3, _⟩ := hT.info hkt
  rw [a3] at hr
  cases d1 <;> cases hx : ev x <;> cases hy : ev y <;> simp only [K.of, hx, hy, reduceCtorEq] at hr
  case string.str.int s k n =>
    cases hb : inRange n s.size with
    | false => rw [hb] at hr; cases hr
    | true =>
      rw [hb] at hr
      simp only [cond_true] at hr
      obtain ⟨h1, h2⟩ := inRange_iff.1 hb
      refine ⟨_, OpOK.pure rfl fun M2 _ β Z a w hm hxs => ?_, hr⟩
      have q1 := hxs x (by simp [ho, Op.operands])
      have q2 := hxs y (by simp [ho, Op.operands])
      rw [hx] at q1; rw [hy] at q2
      refine ⟨_, ?_, .int _ _⟩
      have hlt : n.toNat < s.size := by omega
      have e1 : s[n.toNat]? = some s[n.toNat] := by simp [hlt]
      have e2 : s.data.getD n.toNat 0 = s[n.toNat] := by
        have : n.toNat < s.data.size := hlt
        rw [Array.getD_eq_getD_getElem?, Array.getElem?_eq_getElem this]; rfl
      simp [execOp, ho, q1.str_inv, q2.int_inv, Instr.index, asIntOf, run_underlying a2, h1, e1, e2]
  case array.agg.int n el cs k xi =>
    have hke : (T el).kind ≠ .bad := fun hk => by simp [hk] at hr
    obtain ⟨i2, d2, b1, b2, b3, b4, _⟩ := hT.info hke
    have hr' : (bif Nat.ble (n * i2.size) cs.length && ((K.of d2).agg || Nat.beq i2.size 1) then (bif inRange xi n then c { val := mkv (K.of d2).agg (pick cs 0 i2.size n xi.toNat 0 i2.size) } else none) else none) = some r := by
      rw [b3, b4] at hr
      revert hr; rw [b3] at hke; cases hkk : K.of d2 <;> simp_all
    cases hb : (Nat.ble (n * i2.size) cs.length && ((K.of d2).agg || Nat.beq i2.size 1)) with
    | false => rw [hb] at hr'; cases hr'
    | true =>
      rw [hb] at hr'
      simp only [cond_true] at hr'
      obtain ⟨hb1, hb2⟩ := (Bool.and_eq_true _ _).mp hb
      have hb1' := Nat.le_of_ble_eq_true hb1
      cases hin : inRange xi n with
      | false => rw [hin] at hr'; cases hr'
      | true =>
        rw [hin] at hr'
        simp only [cond_true] at hr'
        obtain ⟨h1, h2⟩ := inRange_iff.1 hin
        have hxn : xi.toNat < n := by omega
        refine ⟨_, OpOK.pure rfl fun M2 _ β Z a w hm hxs => ?_, hr'⟩
        have q1 := hxs x (by simp [ho, Op.operands])
        have q2 := hxs y (by simp [ho, Op.operands])
        rw [hx] at q1; rw [hy] at q2
        obtain ⟨vs, e, hl⟩ := q1.agg_RL
        have hpe : pick cs 0 i2.size n xi.toNat 0 i2.size = (cs.drop (xi.toNat * i2.size)).take i2.size := by
          rw [pick_eq hxn (by omega) (by omega)]; simp
        have hl2 := (hl.drop (xi.toNat * i2.size)).take i2.size
        have hle : xi.toNat * i2.size + i2.size ≤ n * i2.size := by
          have : (xi.toNat + 1) * i2.size ≤ n * i2.size := Nat.mul_le_mul_right _ hxn
          rw [Nat.add_mul] at this; omega
        obtain ⟨v, hv⟩ := isVal_exists (K.of d2).agg (cs := (vs.drop (xi.toNat * i2.size)).take i2.size) (fun ha => by
          have h3 := hl.1
          rw [ha] at hb2
          have h4 : i2.size = 1 := by simpa using hb2
          simp only [List.length_take, List.length_drop]; omega)
        refine ⟨v, ?_, by rw [hpe]; exact mkv_ok hl2 hv⟩
        have p := run_part' b2 b1 (xs := vs.toArray) w (by simpa using hv)
        simp [execOp, ho, e, q2.int_inv, Instr.index, asIntOf, run_underlying a2, h1, h2, run_sizeOf' b1, p]

/-! ### Built-in functions without memory -/
theorem minE_ok {q : Call} {isMax : Bool} {x y : Operand} (ho : o.op = .call q) (hq : q.callee = .builtin (if isMax then .max else .min)) (hargs : q.args = #[x, y]) :
    SOp P o ev M (R := R) (minE isMax (ev x) (ev y)) := by
  intro c r hr
  unfold minE at hr
  cases hx : ev x <;> cases hy : ev y <;> simp only [hx, hy, reduceCtorEq] at hr
  rename_i k n k' m
  cases isMax
  · simp only [cond_false, Bool.false_eq_true, if_false] at hr hq
    refine ⟨_, OpOK.pure rfl fun M2 _ β Z a w hm hxs => ?_, hr⟩
    have q1 := hxs x (by simp [ho, Op.operands, Call.operands, hargs, hq])
    have q2 := hxs y (by simp [ho, Op.operands, Call.operands, hargs, hq])
    rw [hx] at q1; rw [hy] at q2
    exact ⟨_, by simp [execOp, ho, resolve, hq, hargs, invoke, builtin, Builtin.min_, q1.int_inv, q2.int_inv, Builtin.min2], .int _ _⟩
  · simp only [cond_true, if_true] at hr hq
    refine ⟨_, OpOK.pure rfl fun M2 _ β Z a w hm hxs => ?_, hr⟩
    have q1 := hxs x (by simp [ho, Op.operands, Call.operands, hargs, hq])
    have q2 := hxs y (by simp [ho, Op.operands, Call.operands, hargs, hq])
    rw [hx] at q1; rw [hy] at q2
    exact ⟨_, by simp [execOp, ho, resolve, hq, hargs, invoke, builtin, Builtin.max_, q1.int_inv, q2.int_inv, Builtin.max2], .int _ _⟩

end
end Go.Pv
