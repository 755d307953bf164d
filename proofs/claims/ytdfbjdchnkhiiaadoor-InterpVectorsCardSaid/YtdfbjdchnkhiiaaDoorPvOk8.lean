/-
  Slices that are made: literals, make, append.
-/
import Derived.Test.YtdfbjdchnkhiiaaDoorPvOk7
import Derived.IntWalk
namespace Go.Pv
section
variable {P : Program} {T : TypeId → TT} {o : Oper} {ev : Operand → V} {M : Mem} {R : Type}
variable {β : Nat → Option Loc} {M2 : Mem} {Z : Nat → Prop} {h : Heap} {w : World}

theorem rowOf_spec (hT : TOK P T) {t : TypeId} {e : TypeId} {τ : Ty} {s : Nat} (h : rowOf T t = some (e, τ, s)) :
    ∃ ie, P.underlying t = some (.slice e) ∧ P.info? e = some ie ∧ ie.size = s ∧ τ.size = s ∧ ie.bytes ≤ 16384 ∧ 0 < s ∧ (T e).zero = ie.zero.map (fun z => z.cells.toList.map V.ofValue) ∧ ∃ z, ie.zero = some z ∧ z.cells.size = s := by
  unfold rowOf at h
  have hkt : (T t).kind ≠ .bad := fun hk => by simp [hk] at h
  obtain ⟨i1, d1, a1, a2, a3, _⟩ := hT.info hkt
  rw [a3] at h
  cases d1 <;> simp only [K.of, reduceCtorEq] at h
  rename_i e'
  cases hty : (T e').ty with
  | none => simp [hty] at h
  | some τ' =>
    simp only [hty] at h
    have hke : (T e').kind ≠ .bad := fun hk => by simp [hk] at h
    obtain ⟨ie, de, b1, b2, b3, b4, b5, b6, _⟩ := hT.info hke
    have h' : (bif Nat.beq (T e').size τ'.size && Nat.ble (T e').bytes 16384 && Nat.blt 0 (T e').size && zeroOk (T e') then some (e', τ', (T e').size) else none) = some (e, τ, s) := by
      revert h; cases hk : (T e').kind <;> first | exact absurd hk hke | exact fun hh => hh
    cases hq : (Nat.beq (T e').size τ'.size && Nat.ble (T e').bytes 16384 && Nat.blt 0 (T e').size && zeroOk (T e')) with
    | false => rw [hq] at h'; cases h'
    | true =>
      rw [hq] at h'
      simp only [cond_true, Option.some.injEq, Prod.mk.injEq] at h'
      obtain ⟨rfl, rfl, rfl⟩ := h'
      simp only [Bool.and_eq_true] at hq
      have q1 := Nat.eq_of_beq_eq_true hq.1.1.1
      have q2 := Nat.le_of_ble_eq_true hq.1.1.2
      have q3 : 0 < (T e').size := Nat.le_of_ble_eq_true hq.1.2
      refine ⟨ie, a2, b1, b4.symm, q1.symm, by rw [← b5]; exact q2, q3, b6, ?_⟩
      have q4 := hq.2
      unfold zeroOk at q4
      rw [b6] at q4
      cases hz : ie.zero with
      | none => rw [hz] at q4; simp at q4
      | some z =>
        rw [hz] at q4
        simp only [Option.map_some] at q4
        exact ⟨z, rfl, by simpa using Nat.eq_of_beq_eq_true q4⟩

/-- rows of cells and their data -/
theorem decN_ok {τ : Ty} : ∀ {n : Nat} {cs : List V} {l : List τ.den} {vs : List Value}, decN τ n cs = some l → RL β M2 Z h cs vs →
    l.length = n ∧ ∀ i x, l[i]? = some x → RD h Z τ x ((vs.drop (i * τ.size)).take τ.size)
  | 0, cs, l, vs, hd, hr => by
    cases cs <;> simp only [decN, Option.some.injEq, reduceCtorEq] at hd
    subst hd
    exact ⟨rfl, fun i x hx => by simp at hx⟩
  | n + 1, cs, l, vs, hd, hr => by
    simp only [decN] at hd
    cases h1 : dec τ cs with
    | none => simp [h1] at hd
    | some p =>
      obtain ⟨x, r⟩ := p
      simp only [h1] at hd
      cases h2 : decN τ n r with
      | none => simp [h2] at hd
      | some l' =>
        simp only [h2, Option.some.injEq] at hd
        subst hd
        obtain ⟨a1, a2⟩ := dec_ok h1 hr
        obtain ⟨b1, b2⟩ := decN_ok h2 a2
        refine ⟨by simp [b1], fun i y hy => ?_⟩
        cases i with
        | zero => simp at hy; subst hy; simpa using a1
        | succ i =>
          simp at hy
          have := b2 i y hy
          rw [List.drop_drop] at this
          rw [Nat.add_mul, Nat.one_mul, Nat.add_comm]; exact this

theorem flatten_replicate_zero (z : Array Value) (len : Nat) (_hz : 0 < z.size) : ((Array.range (len * z.size)).map (z[· % z.size]!)).toList = (List.replicate len z.toList).flatten := by
  induction len with
  | zero => simp
  | succ n ih =>
    rw [List.replicate_succ', List.flatten_append, ← ih]
    simp only [List.flatten_cons, List.flatten_nil, List.append_nil, Array.toList_map, Array.toList_range]
    rw [Nat.add_mul, Nat.one_mul, List.range_add, List.map_append]
    congr 1
    apply List.ext_getElem
    · simp
    · intro i h1 h2
      simp only [List.getElem_map, List.getElem_range, Array.getElem_toList]
      have hi : i < z.size := by simpa using h2
      have : (n * z.size + i) % z.size = i := by rw [Nat.mul_comm, Nat.mul_add_mod]; exact Nat.mod_eq_of_lt hi
      rw [this, getElem!_pos z i hi]

theorem RL.zeros {z : Value} : ∀ (n : Nat), RL β M2 Z h (List.replicate n (z.cells.toList.map V.ofValue)).flatten (List.replicate n z.cells.toList).flatten
  | 0 => by simpa using RL.nil
  | n + 1 => by
    simp only [List.replicate_succ, List.flatten_cons]
    exact RL.append RL.zero (RL.zeros n)

theorem buildSliceE_ok (hT : TOK P T) {id : Nat} {t : TypeId} {n : Nat} {parts : Array (Nat × Operand)} (ho : o.op = .buildSlice t n parts) :
    SOp P o ev M (R := R) (buildSliceE T M id t n (parts.toList.map fun p => (p.1, ev p.2))) := by
  intro c r hr
  unfold buildSliceE at hr
  cases hrow : rowOf T t with
  | none => simp [hrow] at hr
  | some q =>
    obtain ⟨e, τ, s⟩ := q
    simp only [hrow] at hr
    obtain ⟨ie, a1, a2, a3, a4, a5, a6, a7, _⟩ := rowOf_spec hT hrow
    cases hz : (T e).zero with
    | none => simp [hz] at hr
    | some z =>
      simp only [hz] at hr
      rw [hz] at a7
      cases hzz : ie.zero with
      | none => rw [hzz] at a7; cases a7
      | some zv =>
        rw [hzz] at a7
        simp only [Option.map_some, Option.some.injEq] at a7
        cases hq : (Nat.beq z.length s && Nat.ble (n * s) 16777216) with
        | false => rw [hq] at hr; cases hr
        | true =>
          rw [hq] at hr
          simp only [cond_true] at hr
          simp only [Bool.and_eq_true] at hq
          have q1 := Nat.eq_of_beq_eq_true hq.1
          have q2 := Nat.le_of_ble_eq_true hq.2
          obtain ⟨cells', e1, e0, e2⟩ := fillE_ok hr
          cases hdec : decN τ n cells' with
          | none => simp [hdec] at e1
          | some l =>
            simp only [hdec] at e1
            obtain ⟨hid, hc⟩ := newE_inv e1
            refine ⟨_, OpOK.of_run (by simp) fun M2 hM β Z a w hm hx => ?_, hc⟩
            have hid2 : M2 id = .none := by rw [hM id (by simp)]; exact hid
            have hzs : zv.cells.size = s := by rw [← q1, a7]; simp
            have hpx : ∀ p ∈ parts.toList, RV β M2 Z w.heap (ev p.2) (a.eval p.2) := fun p hp => hx p.2 (by
              simp only [ho, Op.operands, List.mem_map]; exact ⟨p, hp, rfl⟩)
            by_cases hn0 : n = 0
            · subst hn0
              -- an empty literal: no cells
              obtain ⟨vc', f1, f2⟩ := e2 β M2 Z w.heap a #[] hpx (by simpa using RL.nil)
              have hl := (decN_ok hdec f2).1
              have hl' : l = [] := List.eq_nil_of_length_eq_zero hl
              subst hl'
              have hv0 : vc'.size = 0 := by have := f2.1; simp at this; rw [← this, e0]; simp
              have hv0' : vc' = #[] := Array.eq_empty_of_size_eq_zero hv0
              subst hv0'
              obtain ⟨n1, n2, n3⟩ := new_row hm hid2 (τ := τ) (l := []) (c := #[]) (cap := 0) (by simp) (by simp) (fun i x hx => by simp at hx) e
              refine ⟨_, w.alloc (.cells #[] e (0, 0)), _, Z, .inl ?_, n3, n1, n2, Wd.alloc _ _ _⟩
              have f1' : Instr.fill (fun i => some (i * ie.size, ie.size)) #[] (parts.toList.map fun p => (p.1, a.eval p.2)) = some #[] := by rw [a3]; exact f1
              have f2' : Instr.fill (fun i => some (i * ie.size, ie.size)) (Array.map (fun _ => default) (Array.range 0)) (parts.toList.map fun p => (p.1, a.eval p.2)) = some #[] := by
                rw [show Array.map (fun (_ : Nat) => (default : Value)) (Array.range 0) = #[] from by apply Array.ext'; simp]; exact f1'
              simp [execOp, ho, Instr.buildSlice, run_underlying a1, run_sizeOf' a2, newRow]
              rw [f2']; simp
            · obtain ⟨vc', f1, f2⟩ := e2 β M2 Z w.heap a ((Array.range (n * ie.size)).map (zv.cells[· % zv.cells.size]!)) hpx (by
                rw [a3, ← hzs, flatten_replicate_zero zv.cells n (by omega), a7]; exact RL.zeros n)
              have hd := decN_ok hdec f2
              have hv : vc'.size = n * s := by have := f2.1; simp at this; rw [← this, e0]; simp [q1]
              obtain ⟨n1, n2, n3⟩ := new_row hm hid2 (τ := τ) (l := l) (c := vc') (cap := n) (by rw [hv, a4]) (by omega) hd.2 e
              rw [hd.1] at n3
              refine ⟨_, w.alloc (.cells vc' e (0, 0)), _, Z, .inl ?_, n3, n1, n2, Wd.alloc _ _ _⟩
              have hb := run_buildSlice (P := P) w t e n (parts.map fun (i, x) => (i, a.eval x)) vc' ie zv a1 a2 hzz (by rw [a3]; omega) (by rw [a3]; exact Nat.mul_ne_zero hn0 (by omega)) (by
                rw [Array.toList_map]; rw [a3]; rw [a3] at f1; exact f1)
              simp only [execOp, ho, Sem.run_bind]
              rw [hb]; rfl

theorem makeSliceE_ok (hT : TOK P T) {id : Nat} {t : TypeId} {x y : Operand} (ho : o.op = .makeSlice t x y) : SOp P o ev M (R := R) (makeSliceE T M id t (ev x) (ev y)) := by
  intro c r hr
  unfold makeSliceE at hr
  cases hrow : rowOf T t with
  | none => simp [hrow] at hr
  | some q =>
    obtain ⟨e, τ, s⟩ := q
    obtain ⟨ie, a1, a2, a3, a4, a5, a6, a7, _⟩ := rowOf_spec hT hrow
    cases hx : ev x <;> cases hy : ev y <;> simp only [hrow, hx, hy, reduceCtorEq] at hr
    rename_i k n k' m
    cases hz : (T e).zero with
    | none => simp [hz] at hr
    | some z =>
      simp only [hz] at hr
      rw [hz] at a7
      cases hzz : ie.zero with
      | none => rw [hzz] at a7; cases a7
      | some zv =>
        rw [hzz] at a7
        simp only [Option.map_some, Option.some.injEq] at a7
        split at hr
        · rename_i x0 hdec
          cases hq : (Nat.beq z.length s) with
          | false => rw [hq] at hr; cases hr
          | true =>
            rw [hq] at hr
            simp only [cond_true] at hr
            have q1 := Nat.eq_of_beq_eq_true hq
            cases hb : (decide (0 ≤ n) && decide (n ≤ m) && decide (m ≤ (maxRow : Int))) with
            | false => rw [hb] at hr; cases hr
            | true =>
              rw [hb] at hr
              simp only [cond_true] at hr
              simp only [Bool.and_eq_true, decide_eq_true_eq] at hb
              obtain ⟨⟨b1, b2⟩, b3⟩ := hb
              have b3' : m ≤ 1000000000 := by simpa [maxRow] using b3
              obtain ⟨hid, hc⟩ := newE_inv hr
              refine ⟨_, OpOK.of_run (by simp) fun M2 hM β Z a w hm hxs => ?_, hc⟩
              have hid2 : M2 id = .none := by rw [hM id (by simp)]; exact hid
              have p1 := hxs x (by simp [ho, Op.operands])
              have p2 := hxs y (by simp [ho, Op.operands])
              rw [hx] at p1; rw [hy] at p2
              have hzs : zv.cells.size = s := by rw [← q1, a7]; simp
              have hzRD : RD w.heap Z τ x0 zv.cells.toList := by
                have := (dec_ok hdec (show RL β M2 Z w.heap z zv.cells.toList by rw [a7]; exact RL.zero)).1
                rwa [List.take_of_length_le (by simp; omega)] at this
              have hcells := flatten_replicate_zero zv.cells m.toNat (by omega)
              have hsize : ((Array.range (m.toNat * zv.cells.size)).map (zv.cells[· % zv.cells.size]!)).size = m.toNat * s := by simp [hzs]
              obtain ⟨n1, n2, n3⟩ := new_row hm hid2 (τ := τ) (l := List.replicate n.toNat x0) (c := (Array.range (m.toNat * zv.cells.size)).map (zv.cells[· % zv.cells.size]!)) (cap := m.toNat) (by rw [hsize, a4]) (by simp; omega)
                (fun i x hx => by
                  have hi : i < n.toNat := by have := (List.getElem?_eq_some_iff.1 hx).1; simpa using this
                  have hxe : x = x0 := by
                    rw [List.getElem?_replicate, if_pos hi] at hx; simpa using hx.symm
                  subst hxe
                  rw [hcells]
                  have hdt : ∀ (k i : Nat), i < k → ((List.replicate k zv.cells.toList).flatten.drop (i * τ.size)).take τ.size = zv.cells.toList := by
                    intro k
                    induction k with
                    | zero => intro i hi; omega
                    | succ k ih =>
                      intro i hi
                      rw [List.replicate_succ, List.flatten_cons]
                      cases i with
                      | zero =>
                        rw [Nat.zero_mul, List.drop_zero, List.take_append_of_le_length (by simp; omega), List.take_of_length_le (by simp; omega)]
                      | succ i =>
                        have e : (i + 1) * τ.size = zv.cells.toList.length + i * τ.size := by rw [Nat.add_mul, Nat.one_mul]; simp; omega
                        rw [e, List.drop_append, List.drop_of_length_le (by simp), List.nil_append]
                        simp only [Nat.add_sub_cancel_left]
                        exact ih i (by omega)
                  rw [hdt m.toNat i (by omega)]
                  exact hzRD) e
              refine ⟨_, w.alloc (.cells ((Array.range (m.toNat * zv.cells.size)).map (zv.cells[· % zv.cells.size]!)) e (0, 0)), _, Z, .inl ?_, n3, n1, n2, Wd.alloc _ _ _⟩
              have w1 : IntKind.i64.wrap n = n := IntWalk.i64_in _ (by omega)
              have w2 : IntKind.i64.wrap m = m := IntWalk.i64_in _ (by omega)
              have hby : (ie.bytes : Int) * m ≤ 281474976710656 := by
                have h1 : (ie.bytes : Int) ≤ 16384 := by omega
                have h2 : (ie.bytes : Int) * m ≤ 16384 * 1000000000 := Int.mul_le_mul h1 b3' (by omega) (by omega)
                omega
              have t1 : ¬ (m < 0 ∨ (281474976710656 : Int) < ie.bytes * m) := by omega
              have hlen : (List.replicate n.toNat x0).length = n.toNat := by simp
              rw [hlen]
              have hm0 : m.toNat * ie.size = m.toNat * zv.cells.size := by rw [a3, hzs]
              simp only [execOp, ho, Sem.run_bind, Instr.makeSlice, run_underlying a1, Result.andThen_ok, p1.int_inv, p2.int_inv, asInt, asIntOf, Sem.run_pure, run_typeInfo _ a2, w1, w2]
              rw [if_neg (by simp; omega)]
              simp only [Sem.run_bind, run_askRoom, Result.andThen_ok, run_sizeOf' a2]
              by_cases hz0 : m.toNat * ie.size = 0
              · have e0 : m.toNat * zv.cells.size = 0 := by rw [← hm0]; exact hz0
                rw [if_pos hz0, hz0, e0]
                have er : ∀ f : Nat → Value, (Array.range 0).map f = #[] := fun f => by apply Array.ext'; simp
                simp only [Sem.run_pure, Result.andThen_ok, newRow, Sem.run_bind, run_newObj_alloc, er]
              · rw [if_neg hz0, hm0]
                simp only [Sem.run_bind, run_zeroValue' a2 hzz, Sem.run_pure, Result.andThen_ok, newRow, run_newObj_alloc]
        · cases hr

end
end Go.Pv
