/-
  Addresses of fields and elements.
-/
import Derived.Test.YtdfbjdchnkhiiaaDoorPvOk3
namespace Go.Pv
section
variable {P : Program} {T : TypeId → TT} {o : Oper} {ev : Operand → V} {M : Mem} {R : Type}
variable {β : Nat → Option Loc} {M2 : Mem} {Z : Nat → Prop} {h : Heap}

theorem validP_agree {a : V} (hM : ∀ b ∈ fpOf a, M2 b = M b) (hv : validP M a = true) : validP M2 a = true := by
  cases a <;> simp only [validP, fpOf, List.mem_singleton, forall_eq] at * <;> first | exact hv | (rw [hM]; exact hv)

/-- a valid address is an address; further on it stays one -/
theorem plus_ok {a : V} (hv : validP M2 a = true) {v : Value} (r : RV β M2 Z h a v) : ∃ cb off, v = .pointer (some ⟨cb, off, none⟩) ∧
    ∀ n, RV β M2 Z h (a.plus n) (.pointer (some ⟨cb, off + n, none⟩)) := by
  cases a <;> simp only [validP, Bool.false_eq_true] at hv
  case ptr b i j g =>
    have hg : (M2 b).gen = some g := by
      cases hb : M2 b <;> simp only [hb, Bool.false_eq_true] at hv <;> simp only [Blk.gen]
      · rw [Nat.eq_of_beq_eq_true hv]
      · rw [Nat.eq_of_beq_eq_true hv]
    obtain ⟨hi, cb, base, sz, top, e1, e2⟩ := r.ptr_inv hg
    refine ⟨cb, _, e2, fun n => ?_⟩
    refine .ptr b i (j + n) g _ rfl (fun hn => by rw [gen_none hn] at hg; cases hg) fun g0 hg0 => ?_
    rw [hg] at hg0; cases hg0
    exact ⟨Nat.le_refl _, fun _ => ⟨hi, cb, base, sz, top, e1, by rw [Nat.add_assoc]⟩⟩
  case pa b j e m x oo =>
    have hg : (M2 b).gen = some 0 := by
      cases hb : M2 b <;> simp only [hb, Bool.false_eq_true] at hv; rfl
    obtain ⟨h0, h1, h2, h3, cb, base, sz, top, e1, e2⟩ := r.pa_inv hg
    refine ⟨cb, _, e2, fun n => ?_⟩
    refine .pa b j e m x (oo + n) _ rfl (fun hn => by rw [gen_none hn] at hg; cases hg) fun g0 hg0 _ => ?_
    exact ⟨h0, h1, h2, h3, cb, base, sz, top, e1, by simp only [Nat.add_assoc]⟩
  case fp τ l i j =>
    cases r with
    | fp _ _ _ _ _ cb off c Te fz x hv hz hc hx ho hd =>
      exact ⟨cb, off + j, hv, fun n => .fp τ l i (j + n) _ cb off c Te fz x (by rw [Nat.add_assoc]) hz hc hx ho hd⟩

theorem fieldAddrE_ok (hT : TOK P T) {s : TypeId} {x : Operand} {f : Nat} (ho : o.op = .fieldAddr s x f) : SOp P o ev M (R := R) (fieldAddrE T M s (ev x) f) := by
  intro c r hr
  unfold fieldAddrE at hr
  cases hs : isStruct T s f with
  | none => simp [hs] at hr
  | some p =>
    obtain ⟨off, sz⟩ := p
    simp only [hs] at hr
    cases hv : validP M (ev x) with
    | false => rw [hv] at hr; cases hr
    | true =>
      rw [hv] at hr
      simp only [cond_true] at hr
      unfold isStruct at hs
      have hks : (T s).kind ≠ .bad := fun hk => by simp [hk] at hs
      obtain ⟨i1, d1, a1, a2, a3, _⟩ := hT.info hks
      rw [a3] at hs
      cases d1 <;> simp only [K.of, reduceCtorEq] at hs
      rename_i fs
      simp only [List.getElem?_map, Array.getElem?_toList] at hs
      cases hf : fs[f]? with
      | none => simp [hf] at hs
      | some q =>
        simp only [hf, Option.map_some] at hs
        have hkq : (T q.type).kind ≠ .bad := fun hk => by simp [hk] at hs
        obtain ⟨i2, d2, b1, b2, b3, b4, _⟩ := hT.info hkq
        have hs' : (bif Nat.beq i2.size 0 then none else some (q.offset, i2.size)) = some (off, sz) := by
          rw [← b4]; revert hs; cases hk : (T q.type).kind <;> first | exact absurd hk hkq | exact id
        cases hz : Nat.beq i2.size 0 with
        | true => rw [hz] at hs'; cases hs'
        | false =>
          rw [hz] at hs'
          simp only [cond_false, Option.some.injEq, Prod.mk.injEq] at hs'
          obtain ⟨rfl, rfl⟩ := hs'
          have hz' : i2.size ≠ 0 := Nat.ne_of_beq_eq_false hz
          refine ⟨_, OpOK.pure rfl fun M2 hM β Z a w hm hx => ?_, hr⟩
          obtain ⟨cb, off, e1, e2⟩ := plus_ok (validP_agree hM hv) (hx x (by simp [ho, Op.operands]))
          refine ⟨_, ?_, e2 q.offset⟩
          simp [execOp, ho, Instr.fieldAt, run_underlying a2, hf, e1, Instr.sureAddr, fieldPlace, run_sizeOf' b1, hz', addr_add]

theorem elemE_ok {a : V} {n s : Nat} {x : Int} {u : V} (he : elemE M2 a n s x = some u) (hv : validP M2 a = true) (h0 : 0 ≤ x) (h1 : x < n) {v : Value} (r : RV β M2 Z h a v) :
    ∃ cb off, v = .pointer (some ⟨cb, off, none⟩) ∧ RV β M2 Z h u (.pointer (some ⟨cb, off + x.toNat * s, none⟩)) := by
  obtain ⟨cb, off, e1, e2⟩ := plus_ok hv r
  refine ⟨cb, off, e1, ?_⟩
  have e3 := e2 (x.toNat * s)
  cases a <;> simp only [elemE, reduceCtorEq, Option.some.injEq] at he
  case ptr b i j g =>
    cases hb : M2 b <;> simp only [hb, Option.some.injEq] at he
    case box cells =>
      cases hq : (Nat.beq i 0 && Nat.ble (j + n * s) cells.length) with
      | false => rw [hq] at he; cases he
      | true =>
        rw [hq] at he
        simp only [cond_true, Option.some.injEq] at he
        subst he
        simp only [Bool.and_eq_true] at hq
        have hi := Nat.eq_of_beq_eq_true hq.1
        subst hi
        have hg : (M2 b).gen = some 0 := by simp [hb, Blk.gen]
        have hgg : g = 0 := by simp only [validP, hb] at hv; exact Nat.eq_of_beq_eq_true hv
        subst hgg
        obtain ⟨hi, cb', base, sz, top, f1, f2⟩ := r.ptr_inv hg
        refine .pa b j s n x 0 _ rfl (by simp [hb]) fun g0 _ _ => ⟨h0, h1, ?_, by simp [hb, Blk.isBox], cb', base, sz, top, f1, ?_⟩
        · simp only [hb, Blk.len]; exact Nat.le_of_ble_eq_true hq.2
        · rw [f2] at e1
          simp only [Value.pointer.injEq, Option.some.injEq, Addr.mk.injEq, and_true] at e1
          obtain ⟨rfl, rfl⟩ := e1
          simp [Nat.add_assoc]
    all_goals (subst he; exact e3)
  case pa => subst he; exact e3
  case fp => subst he; exact e3

theorem elemE_agree {a : V} {n s : Nat} {x : Int} (hM : ∀ b ∈ fpOf a, M2 b = M b) : elemE M2 a n s x = elemE M a n s x := by
  cases a <;> simp only [elemE, fpOf, List.mem_singleton, forall_eq] at *
  rw [hM]

theorem indexAddrE_ok (hT : TOK P T) {t : TypeId} {x y : Operand} (ho : o.op = .indexAddr t x y) : SOp P o ev M (R := R) (indexAddrE T M t (ev x) (ev y)) := by
  intro c r hr
  unfold indexAddrE at hr
  have hkt : (T t).kind ≠ .bad := fun hk => by simp [hk] at hr
  obtain ⟨i1, d1, a1, a2, a3, _⟩ := hT.info hkt
  rw [a3] at hr
  cases d1 <;> cases hy : ev y <;> simp only [K.of, hy, reduceCtorEq] at hr
  case array.int n el k xi =>
    have hke : (T el).kind ≠ .bad := fun hk => by simp [hk] at hr
    obtain ⟨i2, d2, b1, b2, b3, b4, _⟩ := hT.info hke
    have hr' : (bif validP M (ev x) then (match elemE M (ev x) n i2.size xi with
      | some v => bif inRange xi n then c { val := v, fp := fpOf (ev x) } else none
      | none => none) else none) = some r := by
      rw [← b4]; revert hr; cases hk : (T el).kind <;> first | exact absurd hk hke | exact id
    cases hv : validP M (ev x) with
    | false => rw [hv] at hr'; cases hr'
    | true =>
      rw [hv] at hr'
      simp only [cond_true] at hr'
      cases hel : elemE M (ev x) n i2.size xi with
      | none => simp [hel] at hr'
      | some u =>
        simp only [hel] at hr'
        cases hin : inRange xi n with
        | false => rw [hin] at hr'; cases hr'
        | true =>
          rw [hin] at hr'
          simp only [cond_true] at hr'
          obtain ⟨h1, h2⟩ := inRange_iff.1 hin
          refine ⟨_, OpOK.pure rfl fun M2 hM β Z a w hm hxs => ?_, hr'⟩
          have q2 := hxs y (by simp [ho, Op.operands])
          rw [hy] at q2
          obtain ⟨cb, off, e1, e2⟩ := elemE_ok (by rw [elemE_agree hM]; exact hel) (validP_agree hM hv) h1 h2 (hxs x (by simp [ho, Op.operands]))
          refine ⟨_, ?_, e2⟩
          simp [execOp, ho, Instr.indexAt, asIntOf, q2.int_inv, run_underlying a2, e1, Instr.sureAddr, h1, h2, run_sizeOf' b1, addr_add]
  case slice.int el k xi =>
    have hke : (T el).kind ≠ .bad := fun hk => by simp [hk] at hr
    obtain ⟨i2, d2, b1, b2, b3, b4, _⟩ := hT.info hke
    have hr' : (match ev x with
      | .sl b i m g => match M b with
        | .row τ l g' _ => bif Nat.beq g g' && Nat.beq i2.size τ.size then (bif inRange xi (lenOf l i m) then c { val := .ptr b (xi.toNat + i) 0 g, fp := [b] } else none) else none
        | _ => none
      | .fz τ l => bif Nat.beq i2.size τ.size then (bif inRange xi l.length then c { val := .fp τ l xi.toNat 0 } else none) else none
      | .sb b j s' n => match M b with
        | .box _ => bif Nat.beq i2.size s' then (bif inRange xi n then c { val := .pa b j i2.size n xi 0, fp := [b] } else none) else none
        | _ => none
      | _ => none) = some r := by
      rw [← b4]; revert hr; cases hk : (T el).kind <;> first | exact absurd hk hke | exact id
    clear hr
    -- what is left to run
    have fin : ∀ {a : Act} {w : World} {cb off len cap : Nat}, a.eval x = .slice (some ⟨cb, off, none⟩) len cap → a.eval y = .int k xi → 0 ≤ xi → xi < len →
        (execOp a.eval o).run P w = .ok (.value (.pointer (some ⟨cb, off + xi.toNat * i2.size, none⟩))) w := by
      intro a w cb off len cap e1 e2 h1 h2
      simp [execOp, ho, Instr.indexAt, asIntOf, e1, e2, run_underlying a2, h1, h2, run_sizeOf' b1, addr_add]
    cases hx : ev x <;> simp only [hx, reduceCtorEq] at hr'
    case sl b i m g =>
      cases hb : M b <;> simp only [hb, reduceCtorEq] at hr'
      rename_i τ l g' ro
      cases hq : (Nat.beq g g' && Nat.beq i2.size τ.size) with
      | false => rw [hq] at hr'; cases hr'
      | true =>
        rw [hq] at hr'
        simp only [cond_true] at hr'
        simp only [Bool.and_eq_true] at hq
        have q1 := Nat.eq_of_beq_eq_true hq.1
        have q2 := Nat.eq_of_beq_eq_true hq.2
        subst q1
        cases hin : inRange xi (lenOf l i m) with
        | false => rw [hin] at hr'; cases hr'
        | true =>
          rw [hin] at hr'
          simp only [cond_true] at hr'
          obtain ⟨h1, h2⟩ := inRange_iff.1 hin
          refine ⟨_, OpOK.pure rfl fun M2 hM β Z a w hm hxs => ?_, hr'⟩
          have p1 := hxs x (by simp [ho, Op.operands])
          have p2 := hxs y (by simp [ho, Op.operands])
          rw [hx] at p1; rw [hy] at p2
          have hb2 : M2 b = .row τ l g ro := by rw [hM b (by simp)]; exact hb
          have hgen : (M2 b).gen = some g := by simp [hb2, Blk.gen]
          have hs := p1.sl_inv hgen
          rcases hs with ⟨e0, rfl, e00, e1⟩ | ⟨cb, base, sz, top, off, len, cap, f1, f2, f3, f4, f5, f6, f7⟩
          · rcases hm.row hb2 with ⟨rfl, _⟩ | ⟨cb', base', Te, c', fz', g1, _⟩
            · rcases e00 with rfl | rfl <;> simp [lenOf] at h2 <;> omega
            · rw [e0] at g1; cases g1
          · rcases hm.row hb2 with ⟨_, g1⟩ | ⟨cb', base', Te, c', fz', g1, g2, g3, g4, g5, g6⟩
            · rw [f1] at g1; cases g1
            · rw [f1] at g1
              simp only [Option.some.injEq, Loc.at.injEq] at g1
              obtain ⟨rfl, rfl, rfl, rfl⟩ := g1
              have hlen : lenOf l i m = len ∧ i + len ≤ l.length := by
                cases m with
                | none => simp only [hb2, Blk.cnt] at f7; simp only [lenOf]; omega
                | some m => simp only [hb2, Blk.cnt] at f7; simp only [lenOf]; omega
              have hx1 : xi < len := by rw [← hlen.1]; exact h2
              refine ⟨_, fin f2 p2.int_inv h1 hx1, ?_⟩
              refine .ptr b (xi.toNat + i) 0 g _ rfl (by simp [hb2]) fun g0 hg0 => ?_
              rw [hgen] at hg0; cases hg0
              refine ⟨Nat.le_refl _, fun _ => ⟨by simp only [hb2, Blk.cnt]; omega, cb, base, _, _, f1, ?_⟩⟩
              rw [f3 (by omega), q2, Nat.add_mul]
              simp only [Nat.add_zero, Value.pointer.injEq, Option.some.injEq, Addr.mk.injEq, and_true, true_and]
              omega
    case sb b j s' n =>
      cases hb : M b <;> simp only [hb, reduceCtorEq] at hr'
      rename_i cells
      cases hq : Nat.beq i2.size s' with
      | false => rw [hq] at hr'; cases hr'
      | true =>
        rw [hq] at hr'
        simp only [cond_true] at hr'
        have q1 := Nat.eq_of_beq_eq_true hq
        subst q1
        cases hin : inRange xi n with
        | false => rw [hin] at hr'; cases hr'
        | true =>
          rw [hin] at hr'
          simp only [cond_true] at hr'
          obtain ⟨h1, h2⟩ := inRange_iff.1 hin
          refine ⟨_, OpOK.pure rfl fun M2 hM β Z a w hm hxs => ?_, hr'⟩
          have p1 := hxs x (by simp [ho, Op.operands])
          have p2 := hxs y (by simp [ho, Op.operands])
          rw [hx] at p1; rw [hy] at p2
          have hb2 : M2 b = .box cells := by rw [hM b (by simp)]; exact hb
          obtain ⟨s1, s2, cb, base, sz, top, cap, s3, s4, s5, s6⟩ := p1.sb_inv (by simp [hb2, Blk.gen])
          refine ⟨_, fin s4 p2.int_inv h1 h2, ?_⟩
          exact .pa b j _ n xi 0 _ rfl (by simp [hb2]) fun g0 _ _ => ⟨h1, h2, s1, s2, cb, base, sz, top, s3, by simp [Nat.add_assoc]⟩
    case fz τ l =>
      cases hq : Nat.beq i2.size τ.size with
      | false => rw [hq] at hr'; cases hr'
      | true =>
        rw [hq] at hr'
        simp only [cond_true] at hr'
        have q2 := Nat.eq_of_beq_eq_true hq
        cases hin : inRange xi l.length with
        | false => rw [hin] at hr'; cases hr'
        | true =>
          rw [hin] at hr'
          simp only [cond_true] at hr'
          obtain ⟨h1, h2⟩ := inRange_iff.1 hin
          refine ⟨_, OpOK.pure rfl fun M2 hM β Z a w hm hxs => ?_, hr'⟩
          have p1 := hxs x (by simp [ho, Op.operands])
          have p2 := hxs y (by simp [ho, Op.operands])
          rw [hx] at p1; rw [hy] at p2
          have hd := p1.fz_inv
          simp only [RD] at hd
          have hlt : xi.toNat < l.length := by omega
          rcases hd with ⟨_, rfl⟩ | ⟨cb, off, cap, c', Te, fz', e1, e2, e3, e4, e5, e6⟩
          · simp at hlt
          · simp only [List.cons.injEq, and_true] at e1
            refine ⟨_, fin e1 p2.int_inv h1 h2, ?_⟩
            have hle := mul_le_of_lt (e := τ.size) hlt
            rw [q2]
            exact .fp τ l xi.toNat 0 _ cb (off + xi.toNat * τ.size) c' Te fz' l[xi.toNat] (by simp) e3 e4 (by simp [hlt]) (by omega) (e6 _ _ (by simp [hlt]))

end
end Go.Pv
