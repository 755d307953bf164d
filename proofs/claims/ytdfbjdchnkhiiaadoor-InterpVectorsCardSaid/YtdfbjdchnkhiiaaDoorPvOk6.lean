/-
  Operations that make blocks or write them: alloc, box, build, store.
-/
import Derived.Test.YtdfbjdchnkhiiaaDoorPvMem
namespace Go.Pv
section
variable {P : Program} {T : TypeId → TT} {o : Oper} {ev : Operand → V} {M : Mem} {R : Type}
variable {β : Nat → Option Loc} {M2 : Mem} {Z : Nat → Prop} {h : Heap}

theorem newE_inv {id : Nat} {k : Blk} {v : V} {more : List (Nat × Blk)} {fp : List Nat} {c : Eff → Option R} {r : R} (hr : newE M id k v more fp c = some r) :
    M id = .none ∧ c { val := v, upd := (id, k) :: more, fp := id :: fp } = some r := by
  unfold newE at hr
  cases hm : M id <;> simp only [hm, reduceCtorEq] at hr
  exact ⟨rfl, hr⟩

theorem RL.zero {z : Value} : RL β M2 Z h (z.cells.toList.map V.ofValue) z.cells.toList := by
  refine ⟨by simp, fun i x v hx hv => ?_⟩
  simp only [List.getElem?_map, hv, Option.map_some, Option.some.injEq] at hx
  subst hx
  exact RV.ofValue v

/-- the cells of a value -/
theorem cells_ok {x : V} {cs : List V} (hc : x.cells? = some cs) {v : Value} (r : RV β M2 Z h x v) : RL β M2 Z h cs v.cells.toList := by
  cases r <;> simp only [V.cells?, reduceCtorEq, Option.some.injEq] at hc <;> subst hc
  case bool b => exact RL.cons (.bool b) RL.nil
  case int k n => exact RL.cons (.int k n) RL.nil
  case str s => exact RL.cons (.str s) RL.nil
  case nils => exact RL.cons .nils RL.nil
  case nilp => exact RL.cons .nilp RL.nil
  case nilf => exact RL.cons .nilf RL.nil
  case nilm => exact RL.cons .nilm RL.nil
  case ptr b i j g hn h1 hg =>
    have : v.cells = #[v] := by cases v <;> first | rfl | (simp [Value.oneCell'] at h1)
    rw [this]; exact RL.cons (.ptr b i j g v h1 hn hg) RL.nil
  case pa b j e n x o hn h1 hg =>
    have : v.cells = #[v] := by cases v <;> first | rfl | (simp [Value.oneCell'] at h1)
    rw [this]; exact RL.cons (.pa b j e n x o v h1 hn hg) RL.nil
  case sl b i m g hn h1 hg =>
    have : v.cells = #[v] := by cases v <;> first | rfl | (simp [Value.oneCell'] at h1)
    rw [this]; exact RL.cons (.sl b i m g v h1 hn hg) RL.nil
  case sb b j s n hn h1 hg =>
    have : v.cells = #[v] := by cases v <;> first | rfl | (simp [Value.oneCell'] at h1)
    rw [this]; exact RL.cons (.sb b j s n v h1 hn hg) RL.nil
  case fz τ l hd =>
    have : v.cells = #[v] := by
      simp only [RD] at hd
      rcases hd with ⟨e, _⟩ | ⟨_, _, _, _, _, _, e, _⟩ <;> simp only [List.cons.injEq, and_true] at e <;> subst e <;> rfl
    rw [this]; exact RL.cons (.fz τ l v hd) RL.nil
  case fp τ l i j cb off c T fz x hz hcc hx ho hd hv =>
    have : v.cells = #[v] := by subst hv; rfl
    rw [this]; exact RL.cons (.fp τ l i j v cb off c T fz x hv hz hcc hx ho hd) RL.nil
  case fn f cap vs hl hcc => exact RL.cons (.fn f cap vs hl hcc) RL.nil
  case agg vs hl hcc => exact RL.of_arr hl hcc

/-- what may be stored in one cell -/
theorem flat_ok {x : V} (hf : x.flat = true) {v : Value} (r : RV β M2 Z h x v) : v.oneCell' = true := by
  cases r <;> simp only [V.flat, Bool.false_eq_true] at hf <;> first | rfl | assumption | skip
  case fz τ l hd =>
    simp only [RD] at hd
    rcases hd with ⟨e, _⟩ | ⟨_, _, _, _, _, _, e, _⟩ <;> simp only [List.cons.injEq, and_true] at e <;> subst e <;> rfl
  case fp τ l i j cb off c T fz x hz hcc hx ho hd hv => subst hv; rfl

theorem flats_ok {cs : List V} (hf : cs.all V.flat = true) {vs : List Value} (r : RL β M2 Z h cs vs) : ∀ v ∈ vs, v.oneCell' = true := by
  intro v hv
  obtain ⟨i, hi, rfl⟩ := List.getElem_of_mem hv
  have hl := r.1
  have hi' : i < cs.length := by omega
  exact flat_ok (List.all_eq_true.1 hf cs[i] (List.getElem_mem hi')) (r.2 i cs[i] vs[i] (by simp [hi']) (by simp [hi]))

theorem allocE_ok (hT : TOK P T) {id : Nat} {t : TypeId} (ho : o.op = .alloc t) : SOp P o ev M (R := R) (allocE T M id t) := by
  intro c r hr
  unfold allocE at hr
  have hkt : (T t).kind ≠ .bad := fun hk => by simp [hk] at hr
  cases hz : (T t).zero with
  | none => revert hr; cases (T t).kind <;> simp [hz]
  | some z =>
    have hr' : newE M id (.box z) (.ptr id 0 0 0) [] [] c = some r := by
      rw [hz] at hr; revert hr; cases hk : (T t).kind <;> first | exact absurd hk hkt | exact fun hh => hh
    obtain ⟨hid, hc⟩ := newE_inv hr'
    obtain ⟨i1, d1, a1, a2, a3, a4, a5, a6, _⟩ := hT.info hkt
    rw [hz] at a6
    cases hzz : i1.zero with
    | none => rw [hzz] at a6; cases a6
    | some zv =>
      rw [hzz] at a6
      simp only [Option.map_some, Option.some.injEq] at a6
      refine ⟨_, OpOK.of_run (by simp) fun M2 hM β Z a w hm hx => ?_, hc⟩
      have hid2 : M2 id = .none := by rw [hM id (by simp)]; exact hid
      obtain ⟨n1, n2, n3⟩ := new_box hm hid2 (cells := z) (c := zv.cells) (by rw [a6]; exact RL.zero) t
      refine ⟨_, w.alloc (.cells zv.cells t (0, 0)), _, Z, .inl ?_, n3, n1, n2, Wd.alloc _ _ _⟩
      simp [execOp, ho, Instr.alloc, run_zeroValue' a1 hzz, newVar, newRow]

theorem boxE_ok {id : Nat} {t : TypeId} {x : Operand} (ho : o.op = .box t x) : SOp P o ev M (R := R) (boxE M id (ev x)) := by
  intro c r hr
  unfold boxE at hr
  cases hcs : (ev x).cells? with
  | none => simp [hcs] at hr
  | some cs =>
    simp only [hcs] at hr
    obtain ⟨hid, hc⟩ := newE_inv hr
    refine ⟨_, OpOK.of_run (by simp) fun M2 hM β Z a w hm hx => ?_, hc⟩
    have hid2 : M2 id = .none := by rw [hM id (by simp)]; exact hid
    obtain ⟨n1, n2, n3⟩ := new_box hm hid2 (cells_ok hcs (hx x (by simp [ho, Op.operands]))) t
    refine ⟨_, w.alloc (.cells (a.eval x).cells t (0, 0)), _, Z, .inl ?_, n3, n1, n2, Wd.alloc _ _ _⟩
    simp [execOp, ho, Instr.box, newVar, newRow]

/-! ### Filling parts -/
theorem force1_eq (v : V) (k : V → Option R) : v.force1 k = k v := by cases v <;> rfl
theorem forceL1_eq : ∀ (l : List V) (k : List V → Option R), forceL1 l k = k l
  | [], _ => rfl
  | v :: r, k => by simp only [forceL1, force1_eq, forceL1_eq r]
theorem force2_eq (v : V) (k : V → Option R) : v.force2 k = k v := by cases v <;> simp only [V.force2, forceL1_eq, force1_eq]
theorem forceL2_eq : ∀ (l : List V) (k : List V → Option R), forceL2 l k = k l
  | [], _ => rfl
  | v :: r, k => by simp only [forceL2, force2_eq, forceL2_eq r]
theorem force_eq (v : V) (k : V → Option R) : v.force k = k v := by cases v <;> simp only [V.force, forceL2_eq, force2_eq]
theorem bforce_eq (b : Blk) (k : Blk → Option R) : b.force k = k b := by cases b <;> simp only [Blk.force, forceL2_eq]
theorem forceU_eq : ∀ (u : List (Nat × Blk)) (M : Mem) (k : Mem → Option R), forceU M u k = k (M.upds u)
  | [], _, _ => rfl
  | (b, x) :: r, M, k => by simp only [forceU, bforce_eq, forceU_eq r, Mem.upds]
theorem forceN_eq (n : Nat) (k : Nat → Option R) : forceN n k = k n := by cases n <;> rfl

theorem RL.setCells {c1 : List V} {v1 : List Value} {c2 : List V} {v2 : List Value} (h1 : RL β M2 Z h c1 v1) (j : Nat) (h2 : RL β M2 Z h c2 v2) :
    RL β M2 Z h (setCells c1 j c2) (v1.take j ++ (v2 ++ v1.drop (j + v2.length))) := by
  unfold Go.Pv.setCells
  rw [h2.1]
  exact (h1.take j).append (h2.append (h1.drop _))

theorem fill_one (off : Nat) : ∀ (vs : List Value) (k : Nat) (cs : Array Value), off + k + vs.length ≤ cs.size →
    ((vs.zipIdx k).foldl (fun cs (c, j) => cs.setIfInBounds (off + j) c) cs).toList = cs.toList.take (off + k) ++ (vs ++ cs.toList.drop (off + k + vs.length))
  | [], k, cs, _ => by simp
  | v :: r, k, cs, hl => by
    simp only [List.zipIdx_cons, List.foldl_cons]
    rw [fill_one off r (k + 1) _ (by simp at hl ⊢; omega)]
    simp only [List.length_cons] at hl
    simp only [Array.toList_setIfInBounds]
    apply List.ext_getElem?
    intro q
    have hcs : cs.toList.length = cs.size := Array.length_toList
    simp only [List.getElem?_append, List.length_take, List.getElem?_take, List.getElem?_set, List.length_set, List.length_cons, List.getElem?_drop, List.getElem?_cons, hcs]
    by_cases h1 : q < off + k
    · have : off + k ≠ q := by omega
      simp only [h1, show q < min (off + (k+1)) cs.size from by omega, show q < min (off + k) cs.size from by omega, show q < off + (k + 1) from by omega, if_true, this, if_false]
    · by_cases h2 : q = off + k
      · subst h2
        simp only [show off + k < min (off + (k+1)) cs.size from by omega, show ¬ off + k < min (off + k) cs.size from by omega, show off + k < off + (k + 1) from by omega, show off + k < cs.size from by omega, if_true, if_false,
          show off + k - min (off + k) cs.size = 0 from by omega, show 0 < r.length + 1 from by omega]
      · have e1 : min (off + (k + 1)) cs.size = off + (k + 1) := by omega
        have e2 : min (off + k) cs.size = off + k := by omega
        simp only [e1, e2, show ¬ q < off + (k + 1) from by omega, show ¬ q < off + k from by omega, if_false]
        by_cases h3 : q < off + k + 1 + r.length
        · simp only [show q - (off + (k + 1)) < r.length from by omega, show q - (off + k) < r.length + 1 from by omega, if_true, show q - (off + k) ≠ 0 from by omega, if_false]
          congr 1; try omega
        · simp only [show ¬ q - (off + (k + 1)) < r.length from by omega, show ¬ q - (off + k) < r.length + 1 from by omega, if_false, show off + k ≠ off + (k + 1) + r.length + (q - (off + (k + 1)) - r.length) from by omega]
          congr 1; try omega

/-- the abstract filling and the model's -/
theorem fillE_ok {place : Nat → Option (Nat × Nat)} {parts : List (Nat × Operand)} : ∀ {cells : List V} {k : List V → Option R} {r : R}, fillE place cells (parts.map fun p => (p.1, ev p.2)) k = some r →
    ∃ cells', k cells' = some r ∧ cells'.length = cells.length ∧ ∀ (β : Nat → Option Loc) (M2 : Mem) (Z : Nat → Prop) (h : Heap) (a : Act) (vc : Array Value), (∀ p ∈ parts, RV β M2 Z h (ev p.2) (a.eval p.2)) → RL β M2 Z h cells vc.toList →
      ∃ vc', Instr.fill place vc (parts.map fun p => (p.1, a.eval p.2)) = some vc' ∧ RL β M2 Z h cells' vc'.toList := by
  induction parts with
  | nil => intro cells k r hr; exact ⟨cells, hr, rfl, fun β M2 Z h a vc _ hl => ⟨vc, rfl, hl⟩⟩
  | cons p ps ih =>
    intro cells k r hr
    obtain ⟨i, x⟩ := p
    simp only [List.map_cons, fillE] at hr
    cases hp : place i with
    | none => simp [hp] at hr
    | some q =>
      obtain ⟨off, size⟩ := q
      simp only [hp] at hr
      cases hcs : (ev x).cells? with
      | none => simp [hcs] at hr
      | some cs =>
        simp only [hcs] at hr
        cases hb : (Nat.beq cs.length size && Nat.ble (off + size) cells.length) with
        | false => rw [hb] at hr; cases hr
        | true =>
          rw [hb] at hr
          simp only [cond_true, forceL2_eq] at hr
          simp only [Bool.and_eq_true] at hb
          have b1 := Nat.eq_of_beq_eq_true hb.1
          have b2 := Nat.le_of_ble_eq_true hb.2
          obtain ⟨cells', r1, r4, r5⟩ := ih hr
          refine ⟨cells', r1, ?_, fun β M2 Z h a vc hps hl => ?_⟩
          · rw [r4]; simp [Go.Pv.setCells]; omega
          have hv := cells_ok hcs (hps (i, x) (by simp))
          have hvl : (a.eval x).cells.size = size := by have := hv.1; simp at this; omega
          have hlen := hl.1
          simp at hlen
          have hfo : (((a.eval x).cells.zipIdx.foldl (fun cs (c, j) => cs.setIfInBounds (off + j) c) vc)).toList = vc.toList.take off ++ ((a.eval x).cells.toList ++ vc.toList.drop (off + (a.eval x).cells.toList.length)) := by
            rw [← Array.foldl_toList, Array.toList_zipIdx]
            have := fill_one off (a.eval x).cells.toList 0 vc (by simp; omega)
            simpa using this
          have hl2 := RL.setCells hl off hv
          rw [← hfo] at hl2
          obtain ⟨vc', r2, r3⟩ := r5 β M2 Z h a _ (fun p hp => hps p (by simp [hp])) hl2
          refine ⟨vc', ?_, r3⟩
          simp only [List.map_cons, Instr.fill, hp]
          rw [if_neg (by simp [hvl]; omega)]
          exact r2

/-- where the model puts the parts of an aggregate -/
theorem built_of (hT : TOK P T) {t : TypeId} (hag : (T t).kind.agg = true) (hf : fieldsOk T t = true) {i : TypeInfo} {z : Value} (hi : P.info? t = some i) (hz : i.zero = some z)
    {parts : List (Nat × Value)} {cells : Array Value} (h : Instr.fill (placeOf T t) z.cells parts = some cells) : P.built t parts = some cells := by
  have hk : (T t).kind ≠ .bad := fun hk => by rw [hk] at hag; cases hag
  obtain ⟨i', d, a1, a2, a3, _⟩ := hT.info hk
  rw [hi] at a1; cases a1
  have hpl : ∀ (p1 p2 : Nat → Option (Nat × Nat)), (∀ i r, p1 i = some r → p2 i = some r) → ∀ (parts : List (Nat × Value)) (c c' : Array Value), Instr.fill p1 c parts = some c' → Instr.fill p2 c parts = some c' := by
    intro p1 p2 hp parts
    induction parts with
    | nil => intro c c' hh; exact hh
    | cons q qs ih =>
      intro c c' hh
      obtain ⟨qi, qv⟩ := q
      simp only [Instr.fill] at hh ⊢
      cases h1 : p1 qi with
      | none => simp [h1] at hh
      | some r =>
        rw [hp _ _ h1]
        simp only [h1] at hh
        split at hh
        · cases hh
        · rename_i hn; simp only; rw [if_neg hn]; exact ih _ _ hh
  unfold Program.built
  rw [a3] at hag
  cases d <;> simp only [K.of, K.agg, Bool.false_eq_true] at hag
  case array n e =>
    have hke : (T e).kind ≠ .bad := fun hk => by
      unfold fieldsOk at hf; rw [a3] at hf; simp [K.of, hk] at hf
    obtain ⟨ie, de, hie, _⟩ := hT.info hke
    · 
      simp only [hi, a2, hz, hie]
      refine hpl _ _ ?_ _ _ _ h
      intro j r hr
      unfold placeOf at hr
      rw [a3] at hr
      simp only [K.of] at hr
      cases hlt : Nat.blt j n with
      | false => rw [hlt] at hr; cases hr
      | true =>
        rw [hlt] at hr
        simp only [cond_true] at hr
        obtain ⟨i2, d2, b1, b2, b3, b4, _⟩ := hT.info hke
        rw [hie] at b1; cases b1
        rw [← b4]; revert hr; cases hk : (T e).kind <;> first | exact absurd hk hke | exact id
  case struct fs =>
    have hall : ∀ f ∈ fs.toList, ∃ ie, P.info? f.type = some ie ∧ (T f.type).size = ie.size := by
      intro f hfm
      unfold fieldsOk at hf
      rw [a3] at hf
      simp only [K.of, List.all_map, List.all_eq_true] at hf
      have := hf f hfm
      have hkf : (T f.type).kind ≠ .bad := fun hk => by simp [hk] at this
      obtain ⟨i2, d2, b1, b2, b3, b4, _⟩ := hT.info hkf
      exact ⟨i2, b1, b4⟩
    have hmap : ∀ l : List Field, (∀ f ∈ l, ∃ ie, P.info? f.type = some ie ∧ (T f.type).size = ie.size) →
        l.mapM (fun f => (P.info? f.type).map fun i => (f.offset, i.size)) = some (l.map fun f => (f.offset, (T f.type).size)) := by
      intro l
      induction l with
      | nil => intro _; rfl
      | cons f l ih =>
        intro hl
        obtain ⟨ie, e1, e2⟩ := hl f (by simp)
        rw [List.mapM_cons, ih fun g hg => hl g (by simp [hg])]
        simp [e1, e2]
    simp only [hi, a2, hz, hmap _ hall]
    refine hpl _ _ ?_ _ _ _ h
    intro j r hr
    unfold placeOf at hr
    rw [a3] at hr
    simp only [K.of, List.getElem?_map, Array.getElem?_toList] at hr
    cases hfj : fs[j]? with
    | none => simp [hfj] at hr
    | some f =>
      simp only [hfj, Option.map_some] at hr
      have hkf : (T f.type).kind ≠ .bad := fun hk => by simp [hk] at hr
      have hr' : some (f.offset, (T f.type).size) = some r := by
        revert hr; cases hk : (T f.type).kind <;> first | exact absurd hk hkf | exact id
      simpa [hfj] using hr'

theorem buildE_ok (hT : TOK P T) {t : TypeId} {parts : Array (Nat × Operand)} (ho : o.op = .build t parts) :
    SOp P o ev M (R := R) (buildE T t (parts.toList.map fun p => (p.1, ev p.2))) := by
  intro c r hr
  unfold buildE at hr
  cases hz : (T t).zero with
  | none => simp [hz] at hr
  | some z =>
    simp only [hz] at hr
    cases hq : ((T t).kind.agg && fieldsOk T t) with
    | false => rw [hq] at hr; cases hr
    | true =>
      rw [hq] at hr
      simp only [cond_true] at hr
      obtain ⟨q1, q2⟩ := (Bool.and_eq_true _ _).mp hq
      have hkt : (T t).kind ≠ .bad := fun hk => by rw [hk] at q1; cases q1
      obtain ⟨i1, d1, a1, a2, a3, a4, a5, a6, _⟩ := hT.info hkt
      rw [hz] at a6
      cases hzz : i1.zero with
      | none => rw [hzz] at a6; cases a6
      | some zv =>
        rw [hzz] at a6
        simp only [Option.map_some, Option.some.injEq] at a6
        obtain ⟨cells', e1, _, e2⟩ := fillE_ok hr
        refine ⟨_, OpOK.pure rfl fun M2 hM β Z a w hm hx => ?_, e1⟩
        obtain ⟨vc', f1, f2⟩ := e2 β M2 Z w.heap a zv.cells (fun p hp => hx p.2 (by
          simp only [ho, Op.operands, List.mem_map]; exact ⟨p, hp, rfl⟩)) (by rw [a6]; exact RL.zero)
        have hb := built_of hT q1 q2 a1 hzz f1
        obtain ⟨g1, g2⟩ := f2.to_arr
        refine ⟨.agg vc', ?_, .agg _ _ g1 g2⟩
        have := run_build (P := P) w t (parts.map fun (i, x) => (i, a.eval x)) vc' (by rw [Array.toList_map]; exact hb)
        simp [execOp, ho, this]

end
end Go.Pv
