/-
  Moves, arithmetic, comparison, conversion: the abstract run is right.
-/
import Derived.Test.YtdfbjdchnkhiiaaDoorPvOk
namespace Go.Pv

/-- the table tells the truth -/
def TOK (P : Program) (T : TypeId → TT) : Prop := ∀ t, (T t).kind = .bad ∨ T t = TT.of P t

theorem TOK.info {P : Program} {T : TypeId → TT} (hT : TOK P T) {t : TypeId} (h : (T t).kind ≠ .bad) : ∃ i d, P.info? t = some i ∧ P.underlying t = some d ∧
    (T t).kind = K.of d ∧ (T t).size = i.size ∧ (T t).bytes = i.bytes ∧ (T t).zero = i.zero.map (fun z => z.cells.toList.map V.ofValue) ∧
    (T t).ty = tyOf P 12 t ∧ (T t).eqok = (!(P.eqGuardType P.depth t) && !(P.stoodInHeld t)) := by
  rcases hT t with h' | h'
  · exact absurd h' h
  · rw [h'] at h ⊢; exact TT.of_ok h

/-- an abstract run of an operation, right whatever follows -/
def SOp (P : Program) (o : Oper) (ev : Operand → V) (M : Mem) {R : Type} (run : (Eff → Option R) → Option R) : Prop :=
  ∀ (c : Eff → Option R) (r : R), run c = some r → ∃ eff, OpOK P o ev M eff ∧ c eff = some r

section
variable {P : Program} {T : TypeId → TT} {o : Oper} {ev : Operand → V} {M : Mem} {R : Type}
variable {β : Nat → Option Loc} {M2 : Mem} {Z : Nat → Prop} {h : Heap}

theorem RV.sel {c : Bool} {x y : V} {vx vy : Value} (hx : RV β M2 Z h x vx) (hy : RV β M2 Z h y vy) : RV β M2 Z h (V.sel c x y) (if c then vx else vy) := by
  have gen : RV β M2 Z h (bif c then x else y) (if c then vx else vy) := by cases c <;> simpa
  unfold V.sel
  split
  · rename_i k a k' b
    by_cases e : k = k'
    · subst e
      simp only [decide_true, cond_true]
      rw [hx.int_inv, hy.int_inv]
      cases c <;> exact .int _ _
    · simp only [e, decide_false, cond_false]; exact gen
  · rw [hx.bool_inv, hy.bool_inv]; cases c <;> exact .bool _
  · rw [hx.str_inv, hy.str_inv]; cases c <;> exact .str _
  · exact gen

theorem move_ok {x : Operand} (ho : o.op = .move x ∨ o.op = .assign x) : SOp P o ev M (R := R) fun c => c { val := ev x } := by
  intro c r hr
  refine ⟨_, OpOK.pure rfl fun M2 _ β Z a w hm hx => ⟨a.eval x, ?_, hx x ?_⟩, hr⟩
  · rcases ho with ho | ho <;> simp [execOp, ho]
  · rcases ho with ho | ho <;> simp [ho, Op.operands]

theorem pick_ok {q x y : Operand} (ho : o.op = .pick q x y) {t : Bool} (ht : ev q = .bool t) : SOp P o ev M (R := R) fun c => c { val := V.sel t (ev x) (ev y) } := by
  intro c r hr
  refine ⟨_, OpOK.pure rfl fun M2 _ β Z a w hm hx => ⟨if t then a.eval x else a.eval y, ?_, ?_⟩, hr⟩
  · have hq := hx q (by simp [ho, Op.operands])
    rw [ht] at hq
    simp [execOp, ho, hq.bool_inv, asBool]
  · exact RV.sel (hx x (by simp [ho, Op.operands])) (hx y (by simp [ho, Op.operands]))

/-- two operands, a result without memory -/
theorem bin_of {op : BinOp} {t : TypeId} {x y : Operand} {ty : TypeId} (ho : o.op = .binOp op t x y ty) {c : Eff → Option R} {r : R} {val : V} (hc : c { val := val } = some r)
    (h : ∀ (vx vy : Value) (β : Nat → Option Loc) (M2 : Mem) (Z : Nat → Prop) (w : World), RV β M2 Z w.heap (ev x) vx → RV β M2 Z w.heap (ev y) vy →
      ∃ v, (eqGuard op t x y vx vy).run P w = .ok () w ∧ (binOp op t vx vy).run P w = .ok v w ∧ RV β M2 Z w.heap val v) :
    ∃ eff, OpOK P o ev M eff ∧ c eff = some r := by
  refine ⟨_, OpOK.pure rfl fun M2 _ β Z a w hm hx => ?_, hc⟩
  obtain ⟨v, h1, h2, h3⟩ := h (a.eval x) (a.eval y) β M2 Z w (hx x (by simp [ho, Op.operands])) (hx y (by simp [ho, Op.operands]))
  refine ⟨v, ?_, h3⟩
  simp [execOp, ho, h1, h2]

theorem binInt_ok {op : BinOp} {t : TypeId} {x y : Operand} {ty : TypeId} (ho : o.op = .binOp op t x y ty) {k : IntKind} {a b : Int} (hx : ev x = .int k a) (hy : ev y = .int k b)
    (hs : op ≠ .shl ∧ op ≠ .shr) : SOp P o ev M (R := R) (binInt op k a b) := by
  intro c r hr
  have key : ∀ val, c { val := val } = some r → (∃ n, val = .int k n ∧ ∀ w : World, (binOp op t (.int k a) (.int k b)).run P w = .ok (.int k n) w) ∨ (∃ q, val = .bool q ∧ ∀ w : World, (binOp op t (.int k a) (.int k b)).run P w = .ok (.bool q) w) →
      ∃ eff, OpOK P o ev M eff ∧ c eff = some r := by
    intro val hc hv
    refine bin_of ho hc fun vx vy β M2 Z w h1 h2 => ?_
    rw [hx] at h1; rw [hy] at h2
    rw [h1.int_inv, h2.int_inv]
    rcases hv with ⟨n, rfl, hv⟩ | ⟨q, rfl, hv⟩
    · exact ⟨_, by rw [eqGuard_at_int]; rfl, hv w, .int _ _⟩
    · exact ⟨_, by rw [eqGuard_at_int]; rfl, hv w, .bool _⟩
  unfold binInt at hr
  cases op <;> simp only [reduceCtorEq, ne_eq, not_false_eq_true] at hr hs
  all_goals first
    | (refine key _ hr (.inl ⟨_, rfl, fun w => ?_⟩); simp only [binOp, ne_eq, not_true_eq_false, if_false]; rfl)
    | (refine key _ hr (.inr ⟨_, rfl, fun w => ?_⟩); simp only [binOp, ne_eq, not_true_eq_false, if_false]; rfl)
    | (by_cases hb : b = 0
       · simp [hb] at hr
       · simp only [hb, decide_false, cond_false] at hr
         exact key _ hr (.inl ⟨_, rfl, fun w => by simp [binOp, Op.intDiv, hb]⟩))

theorem shift_ok {op : BinOp} {t : TypeId} {x y : Operand} {ty : TypeId} (ho : o.op = .binOp op t x y ty) {k k' : IntKind} {a b : Int} (hx : ev x = .int k a) (hy : ev y = .int k' b)
    {c : Eff → Option R} {r : R}
    (h : (op = .shl ∧ 0 ≤ b ∧ c { val := .int k (k.wrap (a * 2 ^ (min b.toNat k.bits))) } = some r) ∨ (op = .shr ∧ 0 ≤ b ∧ c { val := .int k (a.fdiv (2 ^ (min b.toNat k.bits))) } = some r)) :
    ∃ eff, OpOK P o ev M eff ∧ c eff = some r := by
  rcases h with ⟨rfl, hb, hc⟩ | ⟨rfl, hb, hc⟩ <;>
  · refine bin_of ho hc fun vx vy β M2 Z w h1 h2 => ?_
    rw [hx] at h1; rw [hy] at h2
    rw [h1.int_inv, h2.int_inv]
    refine ⟨_, by rw [eqGuard_at_int]; rfl, ?_, .int _ _⟩
    have : ¬ b < 0 := by omega
    simp [binOp, Op.shift, this]

theorem binStr_ok {op : BinOp} {t : TypeId} {x y : Operand} {ty : TypeId} (ho : o.op = .binOp op t x y ty) {a b : ByteArray} (hx : ev x = .str a) (hy : ev y = .str b) :
    SOp P o ev M (R := R) (binStr op a b) := by
  intro c r hr
  have key : ∀ val, c { val := val } = some r → (∃ n, val = .str n ∧ ∀ w : World, (binOp op t (.string a) (.string b)).run P w = .ok (.string n) w) ∨ (∃ q, val = .bool q ∧ ∀ w : World, (binOp op t (.string a) (.string b)).run P w = .ok (.bool q) w) →
      ∃ eff, OpOK P o ev M eff ∧ c eff = some r := by
    intro val hc hv
    refine bin_of ho hc fun vx vy β M2 Z w h1 h2 => ?_
    rw [hx] at h1; rw [hy] at h2
    rw [h1.str_inv, h2.str_inv]
    have hg : (eqGuard op t x y (.string a) (.string b)).run P w = .ok () w := by cases op <;> rfl
    rcases hv with ⟨n, rfl, hv⟩ | ⟨q, rfl, hv⟩
    · exact ⟨_, hg, hv w, .str _⟩
    · exact ⟨_, hg, hv w, .bool _⟩
  unfold binStr at hr
  cases op <;> simp only [reduceCtorEq] at hr
  all_goals first
    | exact key _ hr (.inr ⟨_, rfl, fun w => by simp [binOp, Op.stringOp]⟩)
    | (by_cases hb : (((a.size + b.size : Nat) : Int) > IntKind.i64.max)
       · rw [decide_eq_true hb] at hr; cases hr
       · rw [decide_eq_false hb] at hr
         exact key _ hr (.inl ⟨_, rfl, fun w => by simp only [binOp, Op.stringOp, if_neg hb]; rfl⟩))

/-! ### Equality by shape -/
/-- a value and its cells -/
def isVal (agg : Bool) (v : Value) (cs : List Value) : Prop := if agg then v = .agg cs.toArray else cs = [v]

theorem run_part' {t : TypeId} {d : TypeDesc} {i : TypeInfo} (hd : P.underlying t = some d) (hi : P.info? t = some i) {xs : Array Value} {off : Nat} {v : Value} (w : World)
    (hv : isVal (K.of d).agg v ((xs.toList.drop off).take i.size)) : (part t xs off).run P w = .ok v w := by
  unfold part
  unfold isVal at hv
  simp only [Sem.run_bind, run_isAgg hd, Result.andThen_ok]
  cases ha : (K.of d).agg
  · simp only [ha, Bool.false_eq_true, if_false] at hv ⊢
    rw [getElem?_of_chunk hv]; rfl
  · simp only [ha, if_true] at hv ⊢
    simp only [Sem.run_bind, run_sizeOf' hi, Result.andThen_ok, Sem.run_pure, hv]
    congr 2
    apply Array.ext'
    simp [List.take_drop]

theorem RL.one_inv {x : V} {vs : List Value} (r : RL β M2 Z h [x] vs) : ∃ v, vs = [v] ∧ RV β M2 Z h x v := by
  obtain ⟨v, vs', rfl, h1, h2⟩ := r.cons_inv
  have := h2.1
  cases vs' with
  | nil => exact ⟨v, rfl, h1⟩
  | cons _ _ => simp at this

theorem isVal_exists (agg : Bool) {cs : List Value} (h : agg = false → cs.length = 1) : ∃ v, isVal agg v cs := by
  cases agg
  · have := h rfl
    cases cs with
    | nil => simp at this
    | cons v r => cases r with
      | nil => exact ⟨v, rfl⟩
      | cons _ _ => simp at this
  · exact ⟨_, rfl⟩

theorem eqE_one (hT : TOK P T) {n : Nat} {t : TypeId} {xs ys : List V} {b : Bool} (he : eqE T n t xs ys = some b) {d : TypeDesc} (hd : P.underlying t = some d) :
    (K.of d).agg = false → xs.length = 1 ∧ ys.length = 1 := by
  intro ha
  cases n with
  | zero => simp [eqE] at he
  | succ n =>
    unfold eqE at he
    have hk : (T t).kind ≠ .bad := fun hk => by simp [hk] at he
    obtain ⟨i, d', h1, h2, h3, _⟩ := hT.info hk
    rw [hd] at h2; cases h2
    rw [h3] at he
    cases d <;> simp only [K.of, K.agg, reduceCtorEq] at he ha
    all_goals
      split at he <;> first | (cases he; done) | exact ⟨rfl, rfl⟩

theorem eqE_ok (hT : TOK P T) : ∀ (n : Nat) (t : TypeId) (xs ys : List V) (b : Bool), eqE T n t xs ys = some b → ∀ (d : TypeDesc), P.underlying t = some d →
    ∀ (vxs vys : List Value) (vx vy : Value), RL β M2 Z h xs vxs → RL β M2 Z h ys vys → isVal (K.of d).agg vx vxs → isVal (K.of d).agg vy vys →
    ∀ (w : World) (e : Nat), (Op.equalIn (e + n) t vx vy).run P w = .ok b w := by
  intro n
  induction n with
  | zero => intro t xs ys b he; simp [eqE] at he
  | succ n ih =>
    intro t xs ys b he d hd vxs vys vx vy rx ry ix iy w e
    have he0 := he
    unfold eqE at he
    have hk : (T t).kind ≠ .bad := fun hk => by simp [hk] at he
    obtain ⟨i, d', h1, h2, h3, h4, h5, h6, h7, h8⟩ := hT.info hk
    rw [hd] at h2; cases h2
    rw [h3] at he
    cases d <;> simp only [K.of, reduceCtorEq] at he
    case bool =>
      simp only [isVal, K.of, K.agg, Bool.false_eq_true, if_false] at ix iy
      split at he
      · rename_i a b'
        obtain ⟨v1, e1, r1⟩ := rx.one_inv
        obtain ⟨v2, e2, r2⟩ := ry.one_inv
        rw [e1] at ix; rw [e2] at iy
        cases ix; cases iy
        rw [r1.bool_inv, r2.bool_inv]
        cases he
        rw [← Nat.add_assoc]
        exact run_equalIn_bool' w _ t a b' hd
      · cases he
    case int k =>
      simp only [isVal, K.of, K.agg, Bool.false_eq_true, if_false] at ix iy
      split at he
      · rename_i k1 a k2 b'
        obtain ⟨v1, e1, r1⟩ := rx.one_inv
        obtain ⟨v2, e2, r2⟩ := ry.one_inv
        rw [e1] at ix; rw [e2] at iy
        cases ix; cases iy
        rw [r1.int_inv, r2.int_inv]
        by_cases hk : k1 = k2
        · subst hk
          simp only [decide_true, cond_true] at he
          cases he
          rw [← Nat.add_assoc]
          exact run_equalIn_int w _ t k1 k a b' hd
        · simp [hk] at he
      · cases he
    case string =>
      simp only [isVal, K.of, K.agg, Bool.false_eq_true, if_false] at ix iy
      split at he
      · rename_i a b'
        obtain ⟨v1, e1, r1⟩ := rx.one_inv
        obtain ⟨v2, e2, r2⟩ := ry.one_inv
        rw [e1] at ix; rw [e2] at iy
        cases ix; cases iy
        rw [r1.str_inv, r2.str_inv]
        cases he
        rw [← Nat.add_assoc]
        exact run_equalIn_string w _ t a b' hd
      · cases he
    case struct fs =>
      simp only [isVal, K.of, K.agg, if_true] at ix iy
      subst ix; subst iy
      cases hq : (T t).eqok with
      | false => rw [hq] at he; cases he
      | true =>
        rw [hq] at he
        simp only [cond_true] at he
        rw [hq] at h8
        have hst : P.stoodInHeld t = false := by
          cases hs : P.stoodInHeld t with
          | false => rfl
          | true => rw [hs] at h8; simp at h8
        have hfo : P.fieldsOf t = fs := by simp [Program.fieldsOf, hd]
        rw [← Nat.add_assoc, run_equalIn_struct w _ t _ _ (by rw [hfo]; exact hd) hst, hfo]
        -- the fields, one after the other
        clear hfo hd he0 h1 h3 h4 h5 h6 h7 h8 hk
        generalize fs.toList = l at he
        induction l generalizing b with
        | nil => simp only [List.map_nil, eqE.eqFs, Option.some.injEq] at he; subst he; simp [Op.eqFields]
        | cons f l ihl =>
          simp only [List.map_cons, eqE.eqFs] at he
          cases hb : (f.name == "_") with
          | true => rw [hb] at he; cases he
          | false =>
            rw [hb] at he
            simp only [cond_false] at he
            split at he
            · rename_i b1 hb1
              split at he
              · rename_i b2 hb2
                cases he
                have hne : f.name ≠ "_" := by simpa using hb
                have hkf : (T f.type).kind ≠ .bad := fun hkf => by
                  cases n with
                  | zero => simp [eqE] at hb1
                  | succ n => unfold eqE at hb1; simp [hkf] at hb1
                obtain ⟨i', df, g1, g2, g3, g4, _⟩ := hT.info hkf
                rw [g4] at hb1
                have rx' := (rx.drop f.offset).take i'.size
                have ry' := (ry.drop f.offset).take i'.size
                have hone := eqE_one hT hb1 g2
                obtain ⟨ux, iux⟩ := isVal_exists (K.of df).agg (fun ha => by rw [← rx'.1]; exact (hone ha).1)
                obtain ⟨uy, iuy⟩ := isVal_exists (K.of df).agg (fun ha => by rw [← ry'.1]; exact (hone ha).2)
                have p1 := run_part' g2 g1 (xs := vxs.toArray) w (by simpa using iux)
                have p2 := run_part' g2 g1 (xs := vys.toArray) w (by simpa using iuy)
                have p3 := ih f.type _ _ _ hb1 df g2 _ _ _ _ rx' ry' iux iuy w e
                simp only [Op.eqFields, hne, ne_eq, not_false_eq_true, if_true, Sem.run_bind, p1, p2, p3, Result.andThen_ok]
                cases b1
                · simp
                · simp only [Bool.not_true, Bool.false_eq_true, if_false, Bool.true_and]
                  exact ihl b2 hb2
              · cases he
            · cases he
    case array len el =>
      simp only [isVal, K.of, K.agg, if_true] at ix iy
      subst ix; subst iy
      have hke : (T el).kind ≠ .bad := fun hke => by simp [hke] at he
      obtain ⟨i', de, g1, g2, g3, g4, _⟩ := hT.info hke
      have he' : eqE.eqIs (eqE T n el) (T el).size xs ys len 0 = some b := by
        revert he; cases (T el).kind <;> simp
      clear he
      rw [← Nat.add_assoc, run_equalIn_array w _ _ _ hd g1, List.range_eq_range']
      have hco : P.cellsOf el = i'.size := by simp [Program.cellsOf, g1]
      rw [hco]; rw [g4] at he'
      clear hd he0 h1 h3 h4 h5 h6 h7 h8 hk hco
      generalize 0 = j at he'
      induction len generalizing b j with
      | zero => simp only [eqE.eqIs, Option.some.injEq] at he'; subst he'; simp [Op.eqItems]
      | succ len ihl =>
        simp only [eqE.eqIs] at he'
        split at he'
        · rename_i b1 hb1
          split at he'
          · rename_i b2 hb2
            cases he'
            have rx' := (rx.drop (j * i'.size)).take i'.size
            have ry' := (ry.drop (j * i'.size)).take i'.size
            have hone := eqE_one hT hb1 g2
            obtain ⟨ux, iux⟩ := isVal_exists (K.of de).agg (fun ha => by rw [← rx'.1]; exact (hone ha).1)
            obtain ⟨uy, iuy⟩ := isVal_exists (K.of de).agg (fun ha => by rw [← ry'.1]; exact (hone ha).2)
            have p1 := run_part' g2 g1 (xs := vxs.toArray) w (by simpa using iux)
            have p2 := run_part' g2 g1 (xs := vys.toArray) w (by simpa using iuy)
            have p3 := ih el _ _ _ hb1 de g2 _ _ _ _ rx' ry' iux iuy w e
            simp only [List.range'_succ, Op.eqItems, Sem.run_bind, p1, p2, p3, Result.andThen_ok]
            cases b1
            · simp
            · simp only [Bool.not_true, Bool.false_eq_true, if_false, Bool.true_and]
              exact ihl b2 (j + 1) hb2
          · cases he'
        · cases he'

theorem RV.agg_RL {cs : List V} {v : Value} (r : RV β M2 Z h (.agg cs) v) : ∃ vs : List Value, v = .agg vs.toArray ∧ RL β M2 Z h cs vs := by
  obtain ⟨vs, rfl, hl, hc⟩ := r.agg_inv
  exact ⟨vs.toList, by simp, RL.of_arr hl hc⟩

theorem binE_ok (hT : TOK P T) {op : BinOp} {t : TypeId} {x y : Operand} {ty : TypeId} (ho : o.op = .binOp op t x y ty) : SOp P o ev M (R := R) (binE T op t (ev x) (ev y)) := by
  intro c r hr
  unfold binE at hr
  cases hx : ev x <;> cases hy : ev y <;> simp only [hx, hy, reduceCtorEq] at hr
  case bool.bool a b =>
    split at hr
    · rename_i hk
      obtain ⟨i, d, h1, h2, h3, _⟩ := hT.info (t := t) (by rw [hk]; simp)
      have hd : d = .bool := by rw [hk] at h3; cases d <;> simp [K.of] at h3 ⊢
      subst hd
      have hg : ∀ w : World, (eqGuard op t x y (.bool a) (.bool b)).run P w = .ok () w := fun w => by rw [eqGuard_at_bool]; rfl
      cases op <;> simp only [reduceCtorEq] at hr
      all_goals
        refine bin_of ho hr fun vx vy β M2 Z w q1 q2 => ?_
        rw [hx] at q1; rw [hy] at q2
        rw [q1.bool_inv, q2.bool_inv]
        refine ⟨_, hg w, ?_, .bool _⟩
        simp [binOp, Op.equal, Op.maxDepth, run_equalIn_bool' w _ t a b h2]
    · cases hr
  case int.int k a k' b =>
    by_cases h1 : op = .shl
    · subst h1
      by_cases hb : b < 0
      · simp [hb] at hr
      · simp only [hb, decide_false, cond_false] at hr
        exact shift_ok ho hx hy (.inl ⟨rfl, by omega, hr⟩)
    · by_cases h2 : op = .shr
      · subst h2
        by_cases hb : b < 0
        · simp [hb] at hr
        · simp only [hb, decide_false, cond_false] at hr
          exact shift_ok ho hx hy (.inr ⟨rfl, by omega, hr⟩)
      · have hr' : (bif decide (k = k') then binInt op k a b c else none) = some r := by
          cases op <;> simp_all
        by_cases hk : k = k'
        · subst hk
          simp only [decide_true, cond_true] at hr'
          exact binInt_ok ho hx hy ⟨h1, h2⟩ c r hr'
        · simp [hk] at hr'
  case str.str a b => exact binStr_ok ho hx hy c r hr
  case agg.agg xs ys =>
    cases hqq : ((T t).eqok && (T t).kind.agg) with
    | false => rw [hqq] at hr; cases hr
    | true =>
      rw [hqq] at hr
      simp only [cond_true] at hr
      obtain ⟨hq, hka⟩ := (Bool.and_eq_true _ _).mp hqq
      split at hr
      · rename_i b hb
        have hk : (T t).kind ≠ .bad := fun hk => by unfold eqE at hb; simp [hk] at hb
        obtain ⟨i, d, h1, h2, h3, _, _, _, _, h8⟩ := hT.info hk
        rw [hq] at h8
        have hg0 : P.eqGuardType P.depth t = false := by
          cases hs : P.eqGuardType P.depth t with
          | false => rfl
          | true => rw [hs] at h8; simp at h8
        have key : ∀ vx vy β M2 Z (w : World), RV β M2 Z w.heap (ev x) vx → RV β M2 Z w.heap (ev y) vy → ∃ us vs : List Value, vx = .agg us.toArray ∧ vy = .agg vs.toArray ∧
            (Op.equalIn 10000 t (.agg us.toArray) (.agg vs.toArray)).run P w = .ok b w := by
          intro vx vy β M2 Z w q1 q2
          rw [hx] at q1; rw [hy] at q2
          obtain ⟨us, rfl, r1⟩ := q1.agg_RL
          obtain ⟨vs, rfl, r2⟩ := q2.agg_RL
          have hagg : (K.of d).agg = true := by rw [← h3]; exact hka
          exact ⟨us, vs, rfl, rfl, eqE_ok hT 12 t xs ys b hb d h2 us vs _ _ r1 r2 (by simp [isVal, hagg]) (by simp [isVal, hagg]) w 9988⟩
        cases op <;> simp only [reduceCtorEq] at hr
        all_goals
          refine bin_of ho hr fun vx vy β M2 Z w q1 q2 => ?_
          obtain ⟨us, vs, rfl, rfl, hrun⟩ := key vx vy β M2 Z w q1 q2
          refine ⟨_, run_eqGuard_agg w _ t x y _ _ hg0, ?_, .bool _⟩
          first
            | rw [run_eql_struct, hrun, Result.andThen_ok]
            | rw [run_neq_struct, hrun, Result.andThen_ok]
      · cases hr

end
end Go.Pv
