/-
  append and copy: the abstract run is right.
-/
import Derived.Test.YtdfbjdchnkhiiaaDoorPvOk9
namespace Go.Pv
section
variable {P : Program} {T : TypeId → TT} {o : Oper} {ev : Operand → V} {M : Mem} {R : Type}
variable {β β' : Nat → Option Loc} {M2 : Mem} {Z : Nat → Prop} {h h' : Heap} {w : World}

theorem grow_rows {τ : Ty} {l : List τ.den} {cs : Array Value} (r : Rows h Z τ l cs.toList) (z : Array Value) (n : Nat) (hz : z.size = τ.size) :
    (cs ++ Builtin.zeroCells z n).size = (l.length + n) * τ.size ∧ ∀ i x, l[i]? = some x → RD h Z τ x (((cs ++ Builtin.zeroCells z n).toList.drop (i * τ.size)).take τ.size) := by
  have hl := r.1
  simp at hl
  refine ⟨by simp [size_zeroCells, hz, hl, Nat.add_mul], fun i x hx => ?_⟩
  have hi : i < l.length := (List.getElem?_eq_some_iff.1 hx).1
  have hle := mul_le_of_lt (e := τ.size) hi
  have := r.2 i x hx
  rw [Array.toList_append, List.drop_append_of_le_length (by simp; omega), List.take_append_of_le_length (by simp; omega)]
  exact this

theorem elems_len {τ : Ty} {x : V} {ys : List τ.den} {fp : List Nat} (_he : elems M τ x = some (ys, fp)) : True := trivial

/-- the run of append by the abstract operation: what stands in the frame -/
theorem appendE_ok (hT : TOK P T) {q : Call} {id : Nat} {t t2 : TypeId} {x y : Operand} (ho : o.op = .call q) (hq : q.callee = .builtin .append)
    (ha0 : q.args.toList[0]? = some x) (ha1 : q.args.toList[1]? = some y) (ht0 : q.argTypes.toList[0]? = some t) (ht1 : q.argTypes.toList[1]? = some t2) {e2' : TypeId} (hk2 : (T t2).kind = .slice e2') :
    SOp P o ev M (R := R) (appendE T M id t (ev x) (ev y)) := by
  intro c r hr
  unfold appendE at hr
  cases hrow : rowOf T t with
  | none => simp [hrow] at hr
  | some qq =>
    obtain ⟨e, τ, s⟩ := qq
    simp only [hrow] at hr
    obtain ⟨ie, a1, a2, a3, a4, a5, a6, a7, hzero⟩ := rowOf_spec hT hrow
    subst a3
    obtain ⟨i2, d2, _, u2, u3, _⟩ := hT.info (t := t2) (by rw [hk2]; simp)
    have ht2 : ∃ e2, P.underlying t2 = some (.slice e2) := by
      rw [hk2] at u3; cases d2 <;> simp only [K.of, reduceCtorEq] at u3; exact ⟨_, u2⟩
    obtain ⟨e2, ht2⟩ := ht2
    obtain ⟨z, hz, hzs⟩ := hzero
    cases hel : elems M τ (ev y) with
    | none => simp [hel] at hr
    | some p =>
      obtain ⟨ys, fp⟩ := p
      simp only [hel] at hr
      have b0 : q.args[0]? = some x := by simpa using ha0
      have b1 : q.args[1]? = some y := by simpa using ha1
      have t0 : q.argTypes[0]? = some t := by simpa using ht0
      have t1 : q.argTypes[1]? = some t2 := by simpa using ht1
      have mem : ∀ {v : Operand}, v ∈ q.args.toList → v ∈ o.op.operands.toList := by
        intro v hv; simp [ho, Op.operands, Call.operands, hq]; simpa using hv
      have mx : x ∈ o.op.operands.toList := mem (List.mem_of_getElem? ha0)
      have my : y ∈ o.op.operands.toList := mem (List.mem_of_getElem? ha1)
      have fin : ∀ {a : Act} {w w' : World} {v : Value}, (Builtin.append_ q.argTypes o.type (q.args.map a.eval)).run P w = .ok v w' → (execOp a.eval o).run P w = .ok (.value v) w' := by
        intro a w w' v hrun
        simp [execOp, ho, resolve, hq, invoke, builtin, hrun]
      have op0 : ∀ {a : Act}, (q.args.map a.eval)[0]? = some (a.eval x) := by intro a; simp [b0]
      have op1 : ∀ {a : Act}, (q.args.map a.eval)[1]? = some (a.eval y) := by intro a; simp [b1]
      have hτ : 0 < τ.size := by omega
      cases hx : ev x <;> simp only [hx, reduceCtorEq] at hr
      case nils =>
        cases hb : decide (ys.length ≤ maxRow) with
        | false => rw [hb] at hr; cases hr
        | true =>
          rw [hb] at hr
          simp only [cond_true] at hr
          have hb' : ys.length ≤ 1000000000 := of_decide_eq_true hb
          obtain ⟨hid, hc⟩ := newE_inv hr
          refine ⟨_, OpOK.of_run (by simp) fun M2 hM β Z a w hm hxs => ?_, hc⟩
          have hid2 : M2 id = .none := by rw [hM id (by simp)]; exact hid
          have p1 := hxs x mx
          rw [hx] at p1
          have e1 := p1.nils_inv
          obtain ⟨news, ⟨ad, cap, e2⟩, n2, n3⟩ := elems_spec hel (fun b hb => hM b (by simp [hb])) hm (hxs y my)
          rw [a4] at n3
          have hl := n2.1
          by_cases h0 : ys.length = 0
          · have hys : ys = [] := List.eq_nil_of_length_eq_zero h0
            subst hys
            obtain ⟨k1, k2, k3⟩ := new_virt hm hid2 τ
            refine ⟨_, w, _, Z, .inl (fin ?_), k3, k1, k2, Wd.refl _⟩
            have hr := append_room (P := P) (w := w) (ty := o.type) t0 t1 a1 ht2 a2 (base := none) (sLen := 0) (sCap := 0) (news := news.toArray) (by rw [op1, e2]) (by rw [op0, e1]) (by rw [← e2]; exact n3 w rfl) (by simp)
            rw [hr]; simp
          · have hgc := grownCap_ge w (0 + ys.length) 0 e
            have hr := append_grow (P := P) (w := w) (ty := o.type) t0 t1 a1 ht2 a2 hz (base := none) (sLen := 0) (sCap := 0) (news := news.toArray) (olds := #[]) (by rw [op0, e1]) (by rw [op1, e2]) (fun w' hw => by rw [← e2]; exact n3 w' hw)
              (fun w' _ => by simp [Builtin.firstCells]) (by omega) (by omega) (growslice_fits (by omega) (by
                have : (0 + ys.length) * ie.bytes ≤ 1000000000 * 16384 := Nat.mul_le_mul (by omega) a5
                omega))
            have hgr := grow_rows (z := z.cells) (n := grownCap w (0 + ys.length) 0 e - (0 + ys.length)) (cs := #[] ++ news.toArray) (by simpa using n2) (by rw [hzs, a4])
            obtain ⟨k1, k2, k3⟩ := new_row hm hid2 (l := ys) (c := #[] ++ news.toArray ++ Builtin.zeroCells z.cells (grownCap w (0 + ys.length) 0 e - (0 + ys.length))) (cap := grownCap w (0 + ys.length) 0 e)
              (by rw [hgr.1]; congr 1; omega) (by omega) hgr.2 e
            refine ⟨_, _, _, Z, .inl (fin hr), ?_, k1, k2, Wd.grow _ _ _⟩
            simp only [Nat.zero_add] at k3 ⊢
            exact k3
      case sl b i m g =>
        cases m with
        | some m => simp at hr
        | none =>
          cases hbb : M b <;> simp only [hbb, reduceCtorEq] at hr
          rename_i τ' l g' ro
          cases hq2 : (Nat.beq g g' && !ro) with
          | false => rw [hq2] at hr; cases hr
          | true =>
            rw [hq2] at hr
            simp only [cond_true] at hr
            simp only [Bool.and_eq_true, Bool.not_eq_true'] at hq2
            have q1 := Nat.eq_of_beq_eq_true hq2.1
            have q2 := hq2.2
            subst q1; subst q2
            split at hr
            · rename_i eτ
              subst eτ
              cases hb : decide ((Go.Pv.cut l i none ++ ys).length ≤ maxRow) with
              | false => rw [hb] at hr; cases hr
              | true =>
                rw [hb] at hr
                simp only [cond_true] at hr
                have hb' : (Go.Pv.cut l i none ++ ys).length ≤ 1000000000 := of_decide_eq_true hb
                refine ⟨_, OpOK.of_run (by simp) fun M2 hM β Z a w hm hxs => ?_, hr⟩
                have p1 := hxs x mx
                rw [hx] at p1
                have hb2 : M2 b = .row τ' l g false := by rw [hM b (by simp)]; exact hbb
                have hgen : (M2 b).gen = some g := by simp [hb2, Blk.gen]
                have hown : (M2 b).own = true := by simp [hb2, Blk.own]
                have hsl := p1.sl_inv hgen
                obtain ⟨news, ⟨ad, cap, e2⟩, n2, n3⟩ := elems_spec hel (fun b hb => hM b (by simp [hb])) hm (hxs y my)
                obtain ⟨olds, ⟨ad0, cap0, e1⟩, o2, o3⟩ := reads_sl hm hb2 hsl
                rw [a4] at n3 o3
                have hl := n2.1
                have hlo := o2.1
                simp only [List.length_append] at hb'
                have hgg : ∃ g0 g', (M2 b).gen = some g0 ∧ (Blk.row τ' (Go.Pv.cut l i none ++ ys) (g + 1) false).gen = some g' ∧ g0 < g' := ⟨g, g + 1, hgen, rfl, by omega⟩
                obtain ⟨L, hcut⟩ : ∃ L, L = l.drop i := ⟨_, rfl⟩
                have hL : Go.Pv.cut l i none = L := hcut.symm
                simp only [hL] at e1 o2 o3 hlo hb' hgg ⊢
                by_cases hroom : L.length + ys.length ≤ cap0
                · -- in place
                  have hr := append_room (P := P) (w := w) (ty := o.type) t0 t1 a1 ht2 a2 (base := ad0) (sLen := L.length) (sCap := cap0) (news := news.toArray) (by rw [op1, e2]) (by rw [op0, e1]) (by rw [← e2]; exact n3 w rfl) hroom
                  rw [e1] at hsl
                  rcases hsl with ⟨v0, v1, v2, v3⟩ | ⟨cb, base, sz, top, off, len, cap1, f1, f2, f3, f4, f5, f6, f7⟩
                  · -- nowhere, and nothing comes
                    simp only [Value.slice.injEq] at v3
                    obtain ⟨rfl, v4, rfl⟩ := v3
                    have hys : ys = [] := List.eq_nil_of_length_eq_zero (by omega)
                    have hc0 : L = [] := List.eq_nil_of_length_eq_zero v4
                    subst hys
                    clear hcut hL
                    subst hc0
                    have ev := gr_ev (h' := w.heap) (loc' := .virt) hm hown hgg (Nat.le_refl _) (fun _ _ _ => rfl) (fun x hx => by simp [Loc.blk?] at hx)
                    refine ⟨_, w, _, Z, .inl (fin hr), ?_, gr_mem hm hown hgg (Nat.le_refl _) (fun _ _ _ => rfl) (fun x hx => by simp [Loc.blk?] at hx) ?_, ev, Wd.refl _⟩
                    · refine .sl b 0 none (g + 1) _ rfl (by simp [Mem.upds, upd_same]) fun g0 hg0 => ?_
                      simp only [Mem.upds, upd_same, Blk.gen, Option.some.injEq] at hg0 ⊢
                      subst hg0
                      exact ⟨Nat.le_refl _, fun _ => .inl ⟨updβ_same _ _ _, rfl, .inl rfl, by simp⟩⟩
                    · unfold RB; simp only [upd_same]; exact .inl ⟨by simp, updβ_same _ _ _⟩
                  · simp only [Value.slice.injEq] at f2
                    obtain ⟨rfl, f2', rfl⟩ := f2
                    rcases hm.row hb2 with ⟨_, g1⟩ | ⟨cb', base', Te, c', fz', g1, g2, g3, g4, g5, g6⟩
                    · rw [f1] at g1; cases g1
                    · rw [f1] at g1
                      simp only [Option.some.injEq, Loc.at.injEq] at g1
                      obtain ⟨rfl, rfl, rfl, rfl⟩ := g1
                      have hfz := g3 rfl
                      subst hfz
                      simp only [hb2, Blk.cnt] at f7
                      by_cases hcap : cap0 = 0
                      · -- no room at all: nothing comes
                        subst hcap
                        have hys : ys = [] := List.eq_nil_of_length_eq_zero (by omega)
                        have hc0 : L = [] := List.eq_nil_of_length_eq_zero (by omega)
                        subst hys
                        clear hcut hL
                        subst hc0
                        have hnews : news = [] := List.eq_nil_of_length_eq_zero (by simpa using hl)
                        subst hnews
                        have hrun : (Builtin.append_ q.argTypes o.type (q.args.map a.eval)).run P w = .ok (.slice (some ⟨cb, off, none⟩) 0 0) w := by
                          rw [hr]; simp [storeCells]
                        have hmul : base * 0 = 0 := rfl
                        have hloc : ∀ x, Loc.blk? (some (.at cb off τ'.size c'.size)) = some x → w.heap.size ≤ x ∨ Loc.blk? (β b) = some x := fun x hx => .inr (by rw [f1]; exact hx)
                        have ev := gr_ev (h' := w.heap) (loc' := .at cb off τ'.size c'.size) hm hown hgg (Nat.le_refl _) (fun _ _ _ => rfl) hloc
                        refine ⟨_, w, _, Z, .inl (fin hrun), ?_, gr_mem hm hown hgg (Nat.le_refl _) (fun _ _ _ => rfl) hloc ?_, ev, Wd.refl _⟩
                        · refine .sl b 0 none (g + 1) _ rfl (by simp [Mem.upds, upd_same]) fun g0 hg0 => ?_
                          simp only [Mem.upds, upd_same, Blk.gen, Option.some.injEq] at hg0 ⊢
                          subst hg0
                          exact ⟨Nat.le_refl _, fun _ => .inr ⟨cb, off, _, _, off, 0, 0, updβ_same _ _ _, rfl, by simp, f4, Nat.le_refl _, by simpa using f4, by simp [Blk.cnt]⟩⟩
                        · unfold RB; simp only [upd_same]
                          exact .inr ⟨cb, off, Te, c', _, updβ_same _ _ _, g2, fun _ => rfl, by simpa using f4, fun i x hx => by simp at hx, by simp⟩
                      · have hoff := f3 (by omega)
                        subst hoff
                        have hLl : L.length = l.length - i := by rw [hcut]; simp
                        have hil : i ≤ l.length := by omega
                        have hpos : base + i * τ'.size + L.length * τ'.size = base + l.length * τ'.size := by
                          rw [Nat.add_assoc, ← Nat.add_mul]; congr 2; omega
                        have hfit : base + l.length * τ'.size + news.length ≤ c'.size := by
                          rw [hl, Nat.add_assoc, ← Nat.add_mul]
                          have : (l.length + ys.length) * τ'.size ≤ (i + cap0) * τ'.size := Nat.mul_le_mul_right _ (by omega)
                          omega
                        have hst := run_storeCells_at P cb (base + l.length * τ'.size) Te news 0 c' w g2 (by simpa using hfit) (n2.flat hτ)
                        simp only [Nat.add_zero] at hst
                        have hrun : (Builtin.append_ q.argTypes o.type (q.args.map a.eval)).run P w = .ok (.slice (some ⟨cb, base + i * τ'.size, none⟩) (L.length + ys.length) cap0)
                            (w.setRow cb (c'.toList.take (base + l.length * τ'.size) ++ news ++ c'.toList.drop (base + l.length * τ'.size + news.length)).toArray) := by
                          rw [hr]
                          simp only [addr_add, ← a4, hpos] at hst ⊢
                          simp [hst]
                        generalize hp : base + l.length * τ'.size = p at *
                        have hcs : c'.toList.length = c'.size := Array.length_toList
                        have h3 : (c'.toList.take p ++ news ++ c'.toList.drop (p + news.length)).toArray.size = c'.size := by simp; omega
                        have hsz : (w.setRow cb (c'.toList.take p ++ news ++ c'.toList.drop (p + news.length)).toArray).heap.size = w.heap.size := by simp [World.setRow]
                        have hoth : ∀ x, x < w.heap.size → Loc.blk? (β b) ≠ some x → (w.setRow cb (c'.toList.take p ++ news ++ c'.toList.drop (p + news.length)).toArray).heap[x]? = w.heap[x]? := by
                          intro x _ hx
                          rw [f1] at hx
                          exact setRow_other w cb x _ (fun e => hx (by simp [Loc.blk?, e]))
                        have hloc : ∀ x, Loc.blk? (some (.at cb (base + i * τ'.size) τ'.size c'.size)) = some x → w.heap.size ≤ x ∨ Loc.blk? (β b) = some x := fun x hx => .inr (by rw [f1]; exact hx)
                        have ev := gr_ev (k' := .row τ' (L ++ ys) (g + 1) false) hm hown hgg (by rw [hsz]; exact Nat.le_refl _) hoth hloc
                        -- the rows as they lie now
                        have hrows : Rows w.heap Z τ' (L ++ ys) (((c'.toList.take p ++ news ++ c'.toList.drop (p + news.length)).drop (base + i * τ'.size)).take ((L ++ ys).length * τ'.size)) := by
                          have hr1 := (rows_of (h := w.heap) (Z := Z) (by rw [← hp] at hfit; omega : base + l.length * τ'.size ≤ c'.size) g5).cut i L.length (by omega)
                          have e5 : (l.drop i).take L.length = L := by rw [hcut, List.take_of_length_le (Nat.le_refl _)]
                          rw [e5] at hr1
                          have hr2 := hr1.append n2
                          refine (congrArg (Rows w.heap Z τ' (L ++ ys)) ?_).mpr hr2
                          have hmul : i * τ'.size + L.length * τ'.size = l.length * τ'.size := by rw [← Nat.add_mul]; congr 1; omega
                          apply List.ext_getElem?
                          intro k
                          simp only [List.getElem?_take, List.getElem?_drop, List.getElem?_append, List.length_take, List.length_drop, List.length_append, hcs, Nat.add_mul, ← hl]
                          have m1 : min p c'.size = p := by omega
                          have m2 : min (L.length * τ'.size) (min (l.length * τ'.size) (c'.size - base) - i * τ'.size) = L.length * τ'.size := by omega
                          simp only [m1, m2]
                          by_cases hk : k < L.length * τ'.size
                          · simp only [hk, if_true, show k < L.length * τ'.size + news.length from by omega, show base + i * τ'.size + k < p + news.length from by omega, show base + i * τ'.size + k < p from by omega, show i * τ'.size + k < l.length * τ'.size from by omega]
                            congr 1; omega
                          · simp only [hk, if_false]
                            by_cases hk2 : k < L.length * τ'.size + news.length
                            · simp only [hk2, if_true, show base + i * τ'.size + k < p + news.length from by omega, show ¬ base + i * τ'.size + k < p from by omega, if_false]
                              congr 1; omega
                            · simp only [hk2, if_false]
                              rw [List.getElem?_eq_none (by omega)]
                        refine ⟨_, _, _, Z, .inl (fin hrun), ?_, gr_mem hm hown hgg (by rw [hsz]; exact Nat.le_refl _) hoth hloc ?_, ev, Wd.setRow _ _ _⟩
                        · refine .sl b 0 none (g + 1) _ rfl (by simp [Mem.upds, upd_same]) fun g0 hg0 => ?_
                          simp only [Mem.upds, upd_same, Blk.gen, Option.some.injEq] at hg0 ⊢
                          subst hg0
                          refine ⟨Nat.le_refl _, fun _ => .inr ⟨cb, base + i * τ'.size, _, _, base + i * τ'.size, L.length + ys.length, cap0, updβ_same _ _ _, rfl, fun _ => by simp, f4, hroom, ?_, by simp [Blk.cnt]⟩⟩
                          rw [Nat.zero_add, Nat.add_assoc, ← Nat.add_mul]; exact f6
                        · unfold RB; simp only [upd_same]
                          refine .inr ⟨cb, base + i * τ'.size, Te, _, (0, 0), by rw [updβ_same, h3], setRow_heap w cb c' _ Te _ g2, fun _ => rfl, ?_, fun k x hx => ?_, by simp⟩
                          · rw [h3, List.length_append, Nat.add_mul]; omega
                          · have hk : k < (L ++ ys).length := (List.getElem?_eq_some_iff.1 hx).1
                            have := (hrows.2 k x hx).mono ev.zkeep ev.zmono
                            have hle := mul_le_of_lt (e := τ'.size) hk
                            rw [List.drop_take, List.take_take, Nat.min_eq_left (by omega), List.drop_drop] at this
                            simpa using this
                · -- elsewhere
                  have hgc := grownCap_ge w (L.length + ys.length) cap0 e
                  have hr := append_grow (P := P) (w := w) (ty := o.type) t0 t1 a1 ht2 a2 hz (base := ad0) (sLen := L.length) (sCap := cap0) (news := news.toArray) (olds := olds.toArray) (by rw [op0, e1]) (by rw [op1, e2]) (fun w' hw => by rw [← e2]; exact n3 w' hw)
                    (fun w' hw => by rw [← e1]; exact o3 w' hw) (by omega) (by omega) (growslice_fits (by omega) (by
                      have : (L.length + ys.length) * ie.bytes ≤ 1000000000 * 16384 := Nat.mul_le_mul (by omega) a5
                      omega))
                  have hgr := grow_rows (z := z.cells) (n := grownCap w (L.length + ys.length) cap0 e - (L.length + ys.length)) (cs := olds.toArray ++ news.toArray) (by simpa using o2.append n2) (by rw [hzs, a4])
                  have hcsz : (olds.toArray ++ news.toArray ++ Builtin.zeroCells z.cells (grownCap w (L.length + ys.length) cap0 e - (L.length + ys.length))).size = grownCap w (L.length + ys.length) cap0 e * τ'.size := by
                    rw [hgr.1, List.length_append]; congr 1; omega
                  generalize hcc : olds.toArray ++ news.toArray ++ Builtin.zeroCells z.cells (grownCap w (L.length + ys.length) cap0 e - (L.length + ys.length)) = cc at *
                  generalize grownCap w (L.length + ys.length) cap0 e = gc at *
                  have hs' : w.heap.size ≤ (w.drew.alloc (.cells cc e)).heap.size := by simp [World.alloc]
                  have hh' : ∀ x, x < w.heap.size → Loc.blk? (β b) ≠ some x → (w.drew.alloc (.cells cc e)).heap[x]? = w.heap[x]? := fun x hlt _ => heap_alloc_old w.drew _ x hlt
                  have hloc : ∀ x, Loc.blk? (some (.at w.heap.size 0 τ'.size cc.size)) = some x → w.heap.size ≤ x ∨ Loc.blk? (β b) = some x := fun x hx => by
                    simp only [Loc.blk?, Option.some.injEq] at hx; exact .inl (by omega)
                  have ev := gr_ev (k' := .row τ' (L ++ ys) (g + 1) false) hm hown hgg hs' hh' hloc
                  refine ⟨_, _, _, Z, .inl (fin hr), ?_, gr_mem hm hown hgg hs' hh' hloc ?_, ev, Wd.grow _ _ _⟩
                  · refine .sl b 0 none (g + 1) _ rfl (by simp [Mem.upds, upd_same]) fun g0 hg0 => ?_
                    simp only [Mem.upds, upd_same, Blk.gen, Option.some.injEq] at hg0 ⊢
                    subst hg0
                    exact ⟨Nat.le_refl _, fun _ => .inr ⟨w.heap.size, 0, _, _, 0, L.length + ys.length, gc, updβ_same _ _ _, rfl, by simp, Nat.zero_le _, hgc, by simp [hcsz], by simp [Blk.cnt]⟩⟩
                  · unfold RB; simp only [upd_same]
                    refine .inr ⟨w.heap.size, 0, e, cc, (0, 0), updβ_same _ _ _, heap_alloc_new w.drew _, fun _ => rfl, ?_, fun k x hx => ?_, by simp⟩
                    · rw [hcsz, Nat.zero_add]; exact Nat.mul_le_mul_right _ (by simpa using hgc)
                    · have := (hgr.2 k x hx).mono ev.zkeep ev.zmono
                      simpa using this
            · cases hr

end
end Go.Pv
