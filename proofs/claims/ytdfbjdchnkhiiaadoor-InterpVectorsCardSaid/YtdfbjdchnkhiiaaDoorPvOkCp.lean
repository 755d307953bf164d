/-
  copy into an array: the abstract run is right.
-/
import Derived.Test.YtdfbjdchnkhiiaaDoorPvOk10
namespace Go.Pv

section
variable {P : Program} {T : TypeId → TT} {R : Type} {o : Oper} {ev : Operand → V}
variable {β : Nat → Option Loc} {M M2 : Mem} {Z : Nat → Prop} {h : Heap}

theorem cutg {α : Type} {l : List α} {i : Nat} {m : Option Nat} {k : Nat} {x : α} (h : (Go.Pv.cut l i m)[k]? = some x) : l[i + k]? = some x := by
  unfold Go.Pv.cut at h
  cases m with
  | none => simpa using h
  | some m =>
    simp only [List.getElem?_take] at h
    split at h
    · simpa using h
    · cases h

/-- where a list's elements lie -/
theorem elems_at {τ : Ty} {x : V} {ys : List τ.den} {fp : List Nat} (he : elems M τ x = some (ys, fp)) (hM : ∀ b ∈ fp, M2 b = M b) (hm : RMem β M2 Z h) {v : Value} (r : RV β M2 Z h x v) :
    ∃ a cap, v = .slice a ys.length cap ∧ ((a = none ∧ ys = []) ∨ ∃ cb off c Te fz, a = some ⟨cb, off, none⟩ ∧ h[cb]? = some (.cells c Te fz) ∧ (0 < ys.length → off + ys.length * τ.size ≤ c.size ∧
      ∀ i x, ys[i]? = some x → RD h Z τ x ((c.toList.drop (off + i * τ.size)).take τ.size))) := by
  cases x <;> simp only [elems, reduceCtorEq] at he
  case nils =>
    simp only [Option.some.injEq, Prod.mk.injEq] at he
    obtain ⟨rfl, rfl⟩ := he
    rw [r.nils_inv]
    exact ⟨none, 0, rfl, .inl ⟨rfl, rfl⟩⟩
  case sl b i m g =>
    cases hb : M b <;> simp only [hb, reduceCtorEq] at he
    rename_i τ' l g' ro
    cases hq : Nat.beq g g' with
    | false => rw [hq] at he; cases he
    | true =>
      rw [hq] at he
      have q1 := Nat.eq_of_beq_eq_true hq
      subst q1
      simp only [cond_true] at he
      split at he
      · rename_i e
        subst e
        simp only [Option.some.injEq, Prod.mk.injEq] at he
        obtain ⟨rfl, rfl⟩ := he
        have hb2 : M2 b = .row τ' l g ro := by rw [hM b (by simp)]; exact hb
        have s := r.sl_inv (g := g) (by simp [hb2, Blk.gen])
        rcases s with ⟨e0, rfl, e1, rfl⟩ | ⟨cb, base, sz, top, off, len, cap, f1, rfl, f3, f4, f5, f6, f7⟩
        · rcases hm.row hb2 with ⟨rfl, _⟩ | ⟨_, _, _, _, _, g1, _⟩
          · exact ⟨none, 0, by rcases e1 with rfl | rfl <;> simp [Go.Pv.cut], .inl ⟨rfl, by rcases e1 with rfl | rfl <;> simp [Go.Pv.cut]⟩⟩
          · rw [e0] at g1; cases g1
        · rcases hm.row hb2 with ⟨_, g1⟩ | ⟨cb', base', Te, c', fz', g1, g2, g3, g4, g5, g6⟩
          · rw [f1] at g1; cases g1
          · rw [f1] at g1
            simp only [Option.some.injEq, Loc.at.injEq] at g1
            obtain ⟨rfl, rfl, rfl, rfl⟩ := g1
            have hcut : (Go.Pv.cut l i m).length = len ∧ i + len ≤ l.length := by
              cases m with
              | none => simp only [hb2, Blk.cnt] at f7; simp only [Go.Pv.cut, List.length_drop]; omega
              | some m => simp only [hb2, Blk.cnt] at f7; simp only [Go.Pv.cut, List.length_take, List.length_drop]; omega
            refine ⟨_, cap, by rw [hcut.1], .inr ⟨cb, off, c', Te, fz', rfl, g2, fun h0 => ?_⟩⟩
            rw [hcut.1] at h0 ⊢
            have hoff := f3 (by omega)
            have hmul : (i + len) * τ'.size ≤ l.length * τ'.size := Nat.mul_le_mul_right _ hcut.2
            rw [Nat.add_mul] at hmul
            refine ⟨by omega, fun k x hx => ?_⟩
            have := g5 (i + k) x (cutg hx)
            rw [hoff, Nat.add_assoc, ← Nat.add_mul]
            exact this
      · cases he
  case fz τ' l =>
    split at he
    · rename_i e
      subst e
      simp only [Option.some.injEq, Prod.mk.injEq] at he
      obtain ⟨rfl, rfl⟩ := he
      have hd := r.fz_inv
      simp only [RD] at hd
      rcases hd with ⟨e1, rfl⟩ | ⟨cb, off, cap, c', Te, fz', e1, e2, e3, e4, e5, e6⟩
      · simp only [List.cons.injEq, and_true] at e1; subst e1; exact ⟨none, 0, rfl, .inl ⟨rfl, rfl⟩⟩
      · simp only [List.cons.injEq, and_true] at e1; subst e1
        exact ⟨_, cap, rfl, .inr ⟨cb, off, c', Te, fz', rfl, e4, fun _ => ⟨e5, e6⟩⟩⟩
    · cases he
  case sb b j s n =>
    cases hb : M b <;> simp only [hb, reduceCtorEq] at he
    rename_i cells
    cases hq : Nat.beq s τ.size && Nat.ble (j + n * s) cells.length with
    | false => rw [hq] at he; cases he
    | true =>
      rw [hq] at he
      simp only [cond_true] at he
      simp only [Bool.and_eq_true] at hq
      have q1 := Nat.eq_of_beq_eq_true hq.1
      have q2 := Nat.le_of_ble_eq_true hq.2
      subst q1
      split at he
      · rename_i l hd
        simp only [Option.some.injEq, Prod.mk.injEq] at he
        obtain ⟨rfl, rfl⟩ := he
        have hb2 : M2 b = .box cells := by rw [hM b (by simp)]; exact hb
        obtain ⟨_, _, cb, base, sz, top, cap, f1, f2, f3, f4⟩ := r.sb_inv (by rw [hb2]; rfl)
        obtain ⟨cb', Te, cc, g1, g2, g3⟩ := hm.box hb2
        rw [f1] at g1
        simp only [Option.some.injEq, Loc.at.injEq] at g1
        obtain ⟨rfl, rfl, rfl, rfl⟩ := g1
        have hcl : cells.length = cc.size := by have := g3.1; simpa using this
        have hd2 := decN_ok hd (g3.seg j (n * τ.size))
        refine ⟨_, cap, by rw [f2, hd2.1], .inr ⟨cb, 0 + j, cc, Te, _, rfl, g2, fun _ => ⟨by rw [hd2.1]; omega, fun i x hx => ?_⟩⟩⟩
        have h1 := hd2.2 i x hx
        have hi : i < n := by rw [← hd2.1]; exact (List.getElem?_eq_some_iff.1 hx).1
        have hle : (i + 1) * τ.size ≤ n * τ.size := Nat.mul_le_mul_right _ hi
        rw [Nat.add_mul, Nat.one_mul] at hle
        rw [List.drop_take, List.take_take, Nat.min_eq_left (by omega), List.drop_drop] at h1
        rw [Nat.zero_add]
        exact h1
      · cases he

theorem RL.getD {cs : List V} {vs : List Value} (r : RL β M Z h cs vs) (i : Nat) : RV β M Z h (cs.getD i .dead) (vs.getD i undef) := by
  by_cases hi : i < cs.length
  · have hl := r.1
    have h1 : cs[i]? = some cs[i] := List.getElem?_eq_getElem hi
    have h2 : vs[i]? = some (vs[i]'(by omega)) := List.getElem?_eq_getElem (by omega)
    have := r.2 i _ _ h1 h2
    simpa [List.getD, h1, h2] using this
  · have : cs.getD i .dead = .dead := by simp [List.getD, Nat.not_lt.1 hi]
    rw [this]; exact .dead _

theorem copyNew_len (cells : List V) (j s : Nat) (τ : Ty) (ys : List τ.den) : ∀ n, (copyNew cells j s τ ys n).length = n * s
  | 0 => by simp [copyNew]
  | n + 1 => by simp [copyNew, copyNew_len cells j s τ ys n, Nat.add_mul]

/-- the cells as they are afterwards -/
theorem copyNew_ok {cells : List V} {old news : List Value} {j : Nat} {τ : Ty} {ys : List τ.den} (hr : RL β M Z h cells old) {F : List Value}
    (hn : ∀ i x, i < ys.length → ys[i]? = some x → RD h Z τ x ((news.drop (i * τ.size)).take τ.size)) :
    ∀ n, j + n * τ.size ≤ F.length → (∀ i, i < n → i < ys.length → (F.drop (j + i * τ.size)).take τ.size = (news.drop (i * τ.size)).take τ.size) →
      (∀ i, i < n → ¬ i < ys.length → ∀ r, r < τ.size → F.getD (j + i * τ.size + r) undef = old.getD (j + i * τ.size + r) undef) → RL β M Z h (copyNew cells j τ.size τ ys n) ((F.drop j).take (n * τ.size))
  | 0, _, _, _ => by simp only [copyNew, Nat.zero_mul, List.take_zero]; exact RL.nil
  | n + 1, hF, h1, h2 => by
    have hF' : j + n * τ.size + τ.size ≤ F.length := by rw [Nat.add_mul, Nat.one_mul] at hF; omega
    have ih := copyNew_ok (F := F) hr hn n (by omega) (fun i hi => h1 i (by omega)) (fun i hi => h2 i (by omega))
    have e : (F.drop j).take ((n + 1) * τ.size) = (F.drop j).take (n * τ.size) ++ (F.drop (j + n * τ.size)).take τ.size := by
      rw [Nat.add_mul, Nat.one_mul, List.take_add, List.drop_drop]
    rw [e]
    simp only [copyNew]
    refine RL.append ih ⟨by simp; omega, fun r v u hv hu => ?_⟩
    rw [List.getElem?_map] at hv
    cases hrr : (List.range τ.size)[r]? with
    | none => rw [hrr] at hv; cases hv
    | some r' =>
      have hlt := (List.getElem?_eq_some_iff.1 hrr).1
      have hr' : r' = r := by have := (List.getElem?_eq_some_iff.1 hrr).2; simp at this; exact this.symm
      subst hr'
      rw [hrr] at hv
      simp only [Option.map_some, Option.some.injEq] at hv
      subst hv
      have hlt' : r' < τ.size := by simpa using hlt
      cases hb : Nat.blt n ys.length with
      | true =>
        rw [sel_true]
        have hn' : n < ys.length := Nat.le_of_ble_eq_true hb
        have hg : ys[n]? = some ys[n] := List.getElem?_eq_getElem hn'
        have hd : ys.getD n τ.dflt = ys[n] := by simp [List.getD, hg]
        rw [h1 n (by omega) hn'] at hu
        have hrd := RL.of_RD (β := β) (M2 := M) (hn n _ hn' hg)
        have := hrd.getD r'
        rw [hd]
        have hu2 : ((news.drop (n * τ.size)).take τ.size).getD r' undef = u := by simp [List.getD, hu]
        rwa [hu2] at this
      | false =>
        rw [sel_false]
        have hn' : ¬ n < ys.length := fun e => by
          have : Nat.blt n ys.length = true := Nat.ble_eq_true_of_le e
          rw [this] at hb; cases hb
        have := hr.getD (j + n * τ.size + r')
        rw [← h2 n (by omega) hn' r' hlt'] at this
        rw [List.getElem?_take, if_pos hlt', List.getElem?_drop] at hu
        have hu2 : F.getD (j + n * τ.size + r') undef = u := by simp [List.getD, hu]
        rwa [hu2] at this

theorem copyE_ok (hT : TOK P T) {q : Call} {t : TypeId} {x y : Operand} (ho : o.op = .call q) (hq : q.callee = .builtin .copy)
    (ha0 : q.args.toList[0]? = some x) (ha1 : q.args.toList[1]? = some y) (ht0 : q.argTypes.toList[0]? = some t) :
    SOp P o ev M (R := R) (copyE T M t (ev x) (ev y)) := by
  intro c r hr
  unfold copyE at hr
  cases hrow : rowOf T t with
  | none => simp [hrow] at hr
  | some qq =>
    obtain ⟨e, τ, s⟩ := qq
    simp only [hrow] at hr
    obtain ⟨ie, a1, a2, a3, a4, a5, a6, a7, hzero⟩ := rowOf_spec hT hrow
    subst a3
    cases hel : elems M τ (ev y) with
    | none => simp [hel] at hr
    | some p =>
      obtain ⟨ys, fp⟩ := p
      simp only [hel] at hr
      cases hx : ev x <;> simp only [hx, reduceCtorEq] at hr
      rename_i b j s' n
      cases hbb : M b <;> simp only [hbb, reduceCtorEq] at hr
      rename_i cells
      cases hq2 : (Nat.beq ie.size s' && Nat.ble (j + n * ie.size) cells.length) with
      | false => rw [hq2] at hr; cases hr
      | true =>
        rw [hq2] at hr
        simp only [cond_true] at hr
        simp only [Bool.and_eq_true] at hq2
        have q1 := Nat.eq_of_beq_eq_true hq2.1
        have q2 := Nat.le_of_ble_eq_true hq2.2
        subst q1
        have b0 : q.args[0]? = some x := by simpa using ha0
        have b1 : q.args[1]? = some y := by simpa using ha1
        have t0 : q.argTypes[0]? = some t := by simpa using ht0
        have mem : ∀ {v : Operand}, v ∈ q.args.toList → v ∈ o.op.operands.toList := by
          intro v hv; simp [ho, Op.operands, Call.operands, hq]; simpa using hv
        have mx : x ∈ o.op.operands.toList := mem (List.mem_of_getElem? ha0)
        have my : y ∈ o.op.operands.toList := mem (List.mem_of_getElem? ha1)
        have hτ : 0 < τ.size := by omega
        refine ⟨_, OpOK.of_run (by simp) fun M2 hM β Z a w hm hxs => ?_, hr⟩
        have hb2 : M2 b = .box cells := by rw [hM b (by simp)]; exact hbb
        have p1 := hxs x mx
        rw [hx] at p1
        obtain ⟨_, _, cb, base, sz, top, cap, f1, f2, f3, f4⟩ := p1.sb_inv (by rw [hb2]; rfl)
        obtain ⟨cb', Te, cc, g1, g2, g3⟩ := hm.box hb2
        rw [f1] at g1
        simp only [Option.some.injEq, Loc.at.injEq] at g1
        obtain ⟨rfl, rfl, rfl, rfl⟩ := g1
        rw [Nat.zero_add] at f2
        obtain ⟨sa, scap, e2, hsrc⟩ := elems_at hel (fun b hb => hM b (by simp [hb])) hm (hxs y my)
        have hcl : cells.length = cc.size := by have := g3.1; simpa using this
        obtain ⟨k, hk⟩ : ∃ k, k = Nat.min ys.length n := ⟨_, rfl⟩
        have hkn : k ≤ n := by rw [hk]; exact Nat.min_le_right _ _
        have hky : k ≤ ys.length := by rw [hk]; exact Nat.min_le_left _ _
        have hkn' : k * τ.size ≤ n * τ.size := Nat.mul_le_mul_right _ hkn
        -- what is read
        obtain ⟨news, n1, n2, n3, n4⟩ : ∃ news : List Value, (Builtin.firstCells ie.size k (a.eval y)).run P w = .ok news.toArray w ∧ news.length = k * τ.size ∧
            (∀ u ∈ news, u.oneCell' = true) ∧ ∀ i x, i < k → ys[i]? = some x → RD w.heap Z τ x ((news.drop (i * τ.size)).take τ.size) := by
          rcases hsrc with ⟨rfl, rfl⟩ | ⟨scb, off, sc, sTe, sfz, rfl, s1, s2⟩
          · have hk0 : k = 0 := by simpa using hky
            subst hk0
            exact ⟨[], by rw [e2]; simp [Builtin.firstCells], by simp, by simp, fun i x hi => by omega⟩
          · by_cases hk0 : k = 0
            · subst hk0
              exact ⟨[], by rw [e2]; simp [Builtin.firstCells, loadCells, loadCellsFrom], by simp, by simp, fun i x hi => by omega⟩
            · obtain ⟨s3, s4⟩ := s2 (by omega)
              have hmul : k * τ.size ≤ ys.length * τ.size := Nat.mul_le_mul_right _ hky
              have hlk : (ys.take k).length = k := by simp; omega
              have hrows : Rows w.heap Z τ (ys.take k) ((sc.toList.drop off).take ((ys.take k).length * τ.size)) := rows_of (by rw [hlk]; omega) fun i x hx => by
                refine s4 i x ?_
                rw [List.getElem?_take] at hx
                split at hx
                · exact hx
                · cases hx
              rw [hlk] at hrows
              refine ⟨(sc.toList.drop off).take (k * τ.size), ?_, by simp; omega, hrows.flat hτ, fun i x hi hx => ?_⟩
              · rw [e2]; simp only [Builtin.firstCells, ← a4]; exact loadCells_at s1 (by omega)
              · exact hrows.2 i x (by rw [List.getElem?_take, if_pos hi]; exact hx)
        -- what is written
        rw [← a4, hcl] at q2
        have hst := run_storeCells_at P cb j Te news 0 cc w g2 (by rw [n2]; omega) n3
        simp only [Nat.add_zero] at hst
        obtain ⟨F, hF⟩ : ∃ F, F = cc.toList.take j ++ news ++ cc.toList.drop (j + news.length) := ⟨_, rfl⟩
        rw [← hF] at hst
        have hccl : cc.toList.length = cc.size := Array.length_toList
        have hFl : F.length = cc.size := by rw [hF]; simp; omega
        have hrun : (execOp a.eval o).run P w = .ok (.value (goInt k)) (w.setRow cb F.toArray) := by
          have hc : (Builtin.copy_ q.argTypes o.type (q.args.map a.eval)).run P w = .ok (goInt k) (w.setRow cb F.toArray) := by
            unfold Builtin.copy_
            have i0 : (q.args.map a.eval)[0]? = some (a.eval x) := by simp [b0]
            have i1 : (q.args.map a.eval)[1]? = some (a.eval y) := by simp [b1]
            simp only [t0, i0, i1, f2, Sem.run_bind, run_underlying a1, Result.andThen_ok, e2, Builtin.lenOf, Sem.run_pure, run_sizeOf' a2]
            rw [← hk, ← e2, n1]
            simp only [Result.andThen_ok, hst, Sem.run_pure]
          simp [execOp, ho, resolve, hq, invoke, builtin, hc]
        have hFr : ∀ p, p < j → F[p]? = cc.toList[p]? := fun p hp => by
          rw [hF, List.append_assoc, List.getElem?_append_left (by simp; omega), List.getElem?_take, if_pos hp]
        have hnew := copyNew_ok (F := F) (j := j) (news := news) (ys := ys.take k) g3 (fun i x hi hx => n4 i x (by simp at hi; omega) (by
          rw [List.getElem?_take] at hx
          split at hx
          · exact hx
          · cases hx)) n (by omega) (fun i hi hlt => by
            have hik : i < k := by simp at hlt; omega
            have hle : (i + 1) * τ.size ≤ k * τ.size := Nat.mul_le_mul_right _ hik
            rw [Nat.add_mul, Nat.one_mul] at hle
            rw [hF, List.append_assoc, List.drop_append, List.drop_of_length_le (by simp; omega), List.nil_append]
            have e5 : j + i * τ.size - (cc.toList.take j).length = i * τ.size := by simp; omega
            rw [e5, List.drop_append_of_le_length (by omega), List.take_append_of_le_length (by simp; omega)]) (fun i hi hge r hr => by
            have hik : k ≤ i := by simp at hge; omega
            have hle : k * τ.size ≤ i * τ.size := Nat.mul_le_mul_right _ hik
            have hle2 : (i + 1) * τ.size ≤ n * τ.size := Nat.mul_le_mul_right _ hi
            rw [Nat.add_mul, Nat.one_mul] at hle2
            have e6 : F[j + i * τ.size + r]? = cc.toList[j + i * τ.size + r]? := by
              rw [hF, List.getElem?_append_right (by simp; omega), List.getElem?_drop]
              congr 1
              simp; omega
            simp only [List.getD, e6])
        -- the list shortened is no other
        have hsame : ∀ m, m ≤ n → copyNew cells j τ.size τ (ys.take k) m = copyNew cells j τ.size τ ys m := by
          intro m
          induction m with
          | zero => intro _; rfl
          | succ m ih =>
            intro hm
            simp only [copyNew]
            rw [ih (by omega)]
            congr 1
            apply List.map_congr_left
            intro r _
            by_cases hmk : m < k
            · have h1 : Nat.blt m (ys.take k).length = true := Nat.ble_eq_true_of_le (by simp; omega)
              have h2 : Nat.blt m ys.length = true := Nat.ble_eq_true_of_le (by omega)
              have h3 : (ys.take k).getD m τ.dflt = ys.getD m τ.dflt := by simp only [List.getD]; rw [List.getElem?_take, if_pos hmk]
              rw [h1, h2, h3]
            · have hky2 : k = ys.length := by
                have : k = min ys.length n := hk
                omega
              have h4 : ys.take k = ys := List.take_of_length_le (by omega)
              rw [h4]
        rw [hsame n (Nat.le_refl _)] at hnew
        have hwr := box_write (w := w) hm hb2 hnew (by rw [copyNew_len, hcl]; exact q2) f1 g2 g3
        have hnl : ((F.drop j).take (n * τ.size)).length = n * τ.size := by simp; omega
        rw [hnl] at hwr
        have hFF : cc.toList.take j ++ (F.drop j).take (n * τ.size) ++ cc.toList.drop (j + n * τ.size) = F := by
          have h1 : cc.toList.take j = F.take j := by
            apply List.ext_getElem?
            intro p
            rw [List.getElem?_take, List.getElem?_take]
            split
            · rename_i hp; exact (hFr p hp).symm
            · rfl
          have h2 : cc.toList.drop (j + n * τ.size) = F.drop (j + n * τ.size) := by
            apply List.ext_getElem?
            intro p
            rw [List.getElem?_drop, List.getElem?_drop, hF, List.getElem?_append_right (by simp; omega), List.getElem?_drop]
            congr 1
            simp; omega
          rw [h1, h2, List.append_assoc]
          conv => rhs; rw [← List.take_append_drop j F]
          congr 1
          conv => rhs; rw [← List.take_append_drop (n * τ.size) (F.drop j)]
          rw [List.drop_drop]
        rw [hFF] at hwr
        simp only [← a4, ← hk]
        exact ⟨_, _, β, Z, .inl hrun, .int _ _, hwr.1, ⟨hwr.2, Wd.setRow _ _ _⟩⟩

end
end Go.Pv
