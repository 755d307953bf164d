/-
  Slice expressions; len.
-/
import Derived.Test.YtdfbjdchnkhiiaaDoorPvOk4
namespace Go.Pv
section
variable {P : Program} {T : TypeId → TT} {o : Oper} {ev : Operand → V} {M : Mem} {R : Type}
variable {β : Nat → Option Loc} {M2 : Mem} {Z : Nat → Prop} {h : Heap}

/-- optional operands -/
def ORV (β : Nat → Option Loc) (M : Mem) (Z : Nat → Prop) (h : Heap) (x : Option V) (v : Option Value) : Prop :=
  match x, v with
  | none, none => True
  | some x, some v => RV β M Z h x v
  | _, _ => False

theorem ORV.map {x : Option Operand} {a : Act} (hx : ∀ y ∈ x.toList, RV β M2 Z h (ev y) (a.eval y)) : ORV β M2 Z h (x.map ev) (x.map a.eval) := by
  cases x with
  | none => trivial
  | some y => exact hx y (by simp)

theorem ORV.int_inv {k : IntKind} {n : Int} {v : Option Value} (r : ORV β M2 Z h (some (.int k n)) v) : v = some (.int k n) := by
  cases v with
  | none => exact r.elim
  | some v => rw [RV.int_inv r]

theorem ORV.none_inv {v : Option Value} (r : ORV β M2 Z h none v) : v = none := by
  cases v with
  | none => rfl
  | some v => exact r.elim

theorem run_sliceBound {k : IntKind} {x : Int} {y : Nat} {code : BoundsCode} {w : World} (h0 : 0 ≤ x) (h1 : x ≤ y) : (Instr.sliceBound (.int k x) y code).run P w = .ok x.toNat w := by
  simp [Instr.sliceBound, asIntOf, h0, h1]

theorem cutE_spec {n : Nat} {lo hi mx : Option V} {c : Nat → Option Nat → Option R} {r : R} (hr : cutE n lo hi mx c = some r) :
    ∃ l hh, c l hh = some r ∧ (∀ x, hh = some x → x ≤ n) ∧ l ≤ hh.getD n ∧ (mx.isSome = true → hh.isSome = true) ∧
      ∀ (β : Nat → Option Loc) (M2 : Mem) (Z : Nat → Prop) (h : Heap) (lo' hi' mx' : Option Value), ORV β M2 Z h lo lo' → ORV β M2 Z h hi hi' → ORV β M2 Z h mx mx' →
        ∀ (isSlice : Bool) (cap : Nat) (w : World), n ≤ cap → ∃ m, (Instr.sliceBounds isSlice n cap lo' hi' mx').run P w = .ok (l, hh.getD n, m) w ∧ hh.getD n ≤ m ∧ m ≤ cap ∧ (mx = none → m = cap) := by
  unfold cutE at hr
  cases mx with
  | none =>
    cases hi with
    | none =>
      cases lo with
      | none =>
        refine ⟨0, none, hr, by simp, by simp, by simp, fun β M2 Z h lo' hi' mx' q1 q2 q3 isSlice cap w hc => ⟨cap, ?_, by simpa using hc, Nat.le_refl _, fun _ => rfl⟩⟩
        rw [q1.none_inv, q2.none_inv, q3.none_inv]
        simp [Instr.sliceBounds]
      | some lo =>
        cases lo <;> simp only [reduceCtorEq] at hr
        rename_i k l
        cases hb : (decide (0 ≤ l) && decide (l ≤ n)) with
        | false => rw [hb] at hr; cases hr
        | true =>
          rw [hb] at hr
          simp only [Bool.and_eq_true, decide_eq_true_eq] at hb
          obtain ⟨b1, b2⟩ := hb
          refine ⟨l.toNat, none, hr, by simp, by simp; omega, by simp, fun β M2 Z h lo' hi' mx' q1 q2 q3 isSlice cap w hc => ⟨cap, ?_, by simpa using hc, Nat.le_refl _, fun _ => rfl⟩⟩
          rw [q1.int_inv, q2.none_inv, q3.none_inv]
          simp [Instr.sliceBounds, run_sliceBound b1 b2]
    | some hi =>
      cases hi <;> simp only [reduceCtorEq] at hr
      rename_i k x
      cases lo with
      | none =>
        simp only at hr
        cases hb : (decide (0 ≤ x) && decide (x ≤ n)) with
        | false => rw [hb] at hr; cases hr
        | true =>
          rw [hb] at hr
          simp only [Bool.and_eq_true, decide_eq_true_eq] at hb
          obtain ⟨b1, b2⟩ := hb
          refine ⟨0, some x.toNat, hr, by simp; omega, by simp, by simp, fun β M2 Z h lo' hi' mx' q1 q2 q3 isSlice cap w hc => ⟨cap, ?_, by simp; omega, Nat.le_refl _, fun _ => rfl⟩⟩
          rw [q1.none_inv, q2.int_inv, q3.none_inv]
          simp [Instr.sliceBounds, run_sliceBound b1 (show x ≤ cap by omega)]
      | some lo =>
        cases lo <;> simp only [reduceCtorEq] at hr
        rename_i k' l
        cases hb : (decide (0 ≤ l) && decide (l ≤ x) && decide (x ≤ n)) with
        | false => rw [hb] at hr; cases hr
        | true =>
          rw [hb] at hr
          simp only [Bool.and_eq_true, decide_eq_true_eq] at hb
          obtain ⟨⟨b1, b2⟩, b3⟩ := hb
          refine ⟨l.toNat, some x.toNat, hr, by simp; omega, by simp; omega, by simp, fun β M2 Z h lo' hi' mx' q1 q2 q3 isSlice cap w hc => ⟨cap, ?_, by simp; omega, Nat.le_refl _, fun _ => rfl⟩⟩
          rw [q1.int_inv, q2.int_inv, q3.none_inv]
          simp [Instr.sliceBounds, run_sliceBound (show 0 ≤ x by omega) (show x ≤ cap by omega), run_sliceBound b1 (show l ≤ (x.toNat : Int) by omega)]
  | some mx =>
    cases mx <;> simp only [reduceCtorEq] at hr
    rename_i km m
    cases hi with
    | none => simp at hr
    | some hi =>
      cases hi <;> simp only [reduceCtorEq] at hr
      rename_i k x
      cases lo with
      | none =>
        simp only at hr
        cases hb : (decide (0 ≤ x) && decide (x ≤ m) && decide (m ≤ n)) with
        | false => rw [hb] at hr; cases hr
        | true =>
          rw [hb] at hr
          simp only [Bool.and_eq_true, decide_eq_true_eq] at hb
          obtain ⟨⟨b1, b2⟩, b3⟩ := hb
          refine ⟨0, some x.toNat, hr, by simp; omega, by simp, by simp, fun β M2 Z h lo' hi' mx' q1 q2 q3 isSlice cap w hc => ⟨m.toNat, ?_, by simp; omega, by omega, by simp⟩⟩
          rw [q1.none_inv, q2.int_inv, q3.int_inv]
          simp [Instr.sliceBounds, run_sliceBound (show 0 ≤ m by omega) (show m ≤ cap by omega), run_sliceBound b1 (show x ≤ (m.toNat : Int) by omega)]
      | some lo =>
        cases lo <;> simp only [reduceCtorEq] at hr
        rename_i k' l
        cases hb : (decide (0 ≤ l) && decide (l ≤ x) && decide (x ≤ m) && decide (m ≤ n)) with
        | false => rw [hb] at hr; cases hr
        | true =>
          rw [hb] at hr
          simp only [Bool.and_eq_true, decide_eq_true_eq] at hb
          obtain ⟨⟨⟨b1, b2⟩, b3⟩, b4⟩ := hb
          refine ⟨l.toNat, some x.toNat, hr, by simp; omega, by simp; omega, by simp, fun β M2 Z h lo' hi' mx' q1 q2 q3 isSlice cap w hc => ⟨m.toNat, ?_, by simp; omega, by omega, by simp⟩⟩
          rw [q1.int_inv, q2.int_inv, q3.int_inv]
          simp [Instr.sliceBounds, run_sliceBound (show 0 ≤ m by omega) (show m ≤ cap by omega), run_sliceBound (show 0 ≤ x by omega) (show x ≤ (m.toNat : Int) by omega), run_sliceBound b1 (show l ≤ (x.toNat : Int) by omega)]

theorem sliceAt_slice {t el : TypeId} (hd : P.underlying t = some (.slice el)) (x : Value) (lo hi mx : Option Value) (w : World) :
    (Instr.sliceAt t x lo hi mx).run P w = (Instr.slice t x lo hi mx).run P w := by
  simp [Instr.sliceAt, run_underlying hd]

theorem sliceAt_string {t : TypeId} (hd : P.underlying t = some .string) (x : Value) (lo hi mx : Option Value) (w : World) :
    (Instr.sliceAt t x lo hi mx).run P w = (Instr.slice t x lo hi mx).run P w := by
  simp [Instr.sliceAt, run_underlying hd]

theorem run_slice {t el : TypeId} {i : TypeInfo} (hd : P.underlying t = some (.slice el)) (hi : P.info? el = some i) {a : Option Addr} {len cap l h' m : Nat} {lo hi' mx : Option Value} {w : World}
    (hb : (Instr.sliceBounds true len cap lo hi' mx).run P w = .ok (l, h', m) w) :
    (Instr.sliceAt t (.slice a len cap) lo hi' mx).run P w = .ok (.slice (if m = l then a else a.map (·.add (l * i.size))) (h' - l) (m - l)) w := by
  rw [sliceAt_slice hd]
  simp only [Instr.slice, Sem.run_bind, run_underlying hd, Result.andThen_ok, hb, run_sizeOf' hi, Sem.run_pure]

theorem mem_ops4 {t : TypeId} {x : Operand} {lo hi mx : Option Operand} (ho : o.op = .slice t x lo hi mx) {y : Operand} :
    y ∈ o.op.operands.toList ↔ y = x ∨ y ∈ lo.toList ∨ y ∈ hi.toList ∨ y ∈ mx.toList := by
  rw [ho]; simp [Op.operands]

/-- a part of a live slice -/
theorem SlOk.cut {k : Blk} {loc : Option Loc} {i : Nat} {m : Option Nat} {a : Option Addr} {len cap l h' mm sz0 : Nat} (s : SlOk k loc i m (.slice a len cap))
    (hsz : ∀ cb base sz top, loc = some (.at cb base sz top) → sz = sz0) (hl : l ≤ h') (hh : h' ≤ len) (hm : h' ≤ mm) (hc : mm ≤ cap) (m' : Option Nat)
    (hm' : (m' = none ∧ m = none ∧ h' = len) ∨ m' = some (h' - l)) :
    SlOk k loc (l + i) m' (.slice (if mm = l then a else a.map (·.add (l * sz0))) (h' - l) (mm - l)) := by
  rcases s with ⟨e0, rfl, e1, e2⟩ | ⟨cb, base, sz, top, off, len', cap', f1, f2, f3, f4, f5, f6, f7⟩
  · simp only [Value.slice.injEq] at e2
    obtain ⟨rfl, rfl, rfl⟩ := e2
    have : l = 0 := by omega
    have : h' = 0 := by omega
    have : mm = 0 := by omega
    subst_vars
    refine .inl ⟨rfl, rfl, ?_, by simp⟩
    rcases hm' with ⟨h, _⟩ | h
    · exact .inl h
    · exact .inr (by simpa using h)
  · simp only [Value.slice.injEq] at f2
    obtain ⟨rfl, rfl, rfl⟩ := f2
    have e := hsz _ _ _ _ f1
    subst e
    have hmul : (i + mm) * sz ≤ (i + cap) * sz := Nat.mul_le_mul_right _ (by omega)
    have hmul2 : (i + l) * sz ≤ (i + cap) * sz := Nat.mul_le_mul_right _ (by omega)
    refine .inr ⟨cb, base, sz, top, if mm = l then off else off + l * sz, h' - l, mm - l, f1, ?_, ?_, ?_, by omega, ?_, ?_⟩
    · split
      · rfl
      · simp [addr_add]
    · intro hpos
      rw [if_neg (by omega), f3 (by omega), Nat.add_mul]; omega
    · split
      · exact f4
      · rw [f3 (by omega)]; rw [Nat.add_mul] at hmul2; omega
    · have : l + i + (mm - l) = i + mm := by omega
      rw [this]; omega
    · rcases hm' with ⟨rfl, rfl, h2⟩ | rfl
      · simp only at f7 ⊢; omega
      · cases m with
        | none => simp only at f7 ⊢; refine ⟨?_, by omega⟩; first | rfl | trivial
        | some m => simp only at f7 ⊢; refine ⟨?_, by omega⟩; first | rfl | trivial

/-- a slice of a live row: its length -/
theorem SlOk.len {τ : Ty} {l : List τ.den} {g : Nat} {ro : Bool} {b i : Nat} {m : Option Nat} {v : Value} (hm : RMem β M2 Z h) (hb : M2 b = .row τ l g ro) (s : SlOk (M2 b) (β b) i m v) :
    ∃ a cap, v = .slice a (lenOf l i m) cap ∧ lenOf l i m ≤ cap := by
  rcases s with ⟨e0, rfl, e1, rfl⟩ | ⟨cb, base, sz, top, off, len, cap, f1, rfl, f3, f4, f5, f6, f7⟩
  · rcases hm.row hb with ⟨rfl, _⟩ | ⟨_, _, _, _, _, g1, _⟩
    · rcases e1 with rfl | rfl <;> exact ⟨none, 0, by simp [lenOf], by simp [lenOf]⟩
    · rw [e0] at g1; cases g1
  · have : lenOf l i m = len := by
      cases m with
      | none => simp only [hb, Blk.cnt] at f7; simp only [lenOf]; omega
      | some m => simp only at f7; simp only [lenOf]; omega
    rw [this]
    exact ⟨_, _, rfl, f5⟩

theorem SlOk.size {τ : Ty} {l : List τ.den} {g : Nat} {ro : Bool} {b : Nat} (hm : RMem β M2 Z h) (hb : M2 b = .row τ l g ro) :
    ∀ cb base sz top, β b = some (.at cb base sz top) → sz = τ.size := by
  intro cb base sz top e
  rcases hm.row hb with ⟨_, g1⟩ | ⟨_, _, _, _, _, g1, _⟩
  · rw [e] at g1; cases g1
  · rw [e] at g1; simp only [Option.some.injEq, Loc.at.injEq] at g1; exact g1.2.2.1

theorem getElem?_sliceFz {α : Type} (l : List α) (lo : Nat) (hi : Option Nat) (hh : ∀ x, hi = some x → x ≤ l.length) (i : Nat) (x : α) (h : (sliceFz l lo hi)[i]? = some x) : l[lo + i]? = some x := by
  unfold sliceFz at h
  cases hi with
  | none => simpa using h
  | some hh =>
    simp only [List.getElem?_drop, List.getElem?_take] at h
    split at h
    · exact h
    · cases h

theorem RD.slice {τ : Ty} {l : List τ.den} {a : Option Addr} {len cap lo m : Nat} {hi : Option Nat} {sz : Nat} (hsz : sz = τ.size) (hd : RD h Z (.slice τ) l [.slice a len cap])
    (hl : lo ≤ hi.getD l.length) (hh : ∀ x, hi = some x → x ≤ l.length) (hm : hi.getD l.length ≤ m) (hc : m ≤ cap) :
    len = l.length ∧ RD h Z (.slice τ) (sliceFz l lo hi) [.slice (if m = lo then a else a.map (·.add (lo * sz))) (hi.getD l.length - lo) (m - lo)] := by
  subst hsz
  have hlen : (sliceFz l lo hi).length = hi.getD l.length - lo := by
    unfold sliceFz
    cases hi with
    | none => simp
    | some x => have := hh x rfl; simp; omega
  have hb : hi.getD l.length ≤ l.length := by
    cases hi with
    | none => simp
    | some x => simpa using hh x rfl
  simp only [RD] at hd ⊢
  rcases hd with ⟨e1, rfl⟩ | ⟨cb, off, cap', c, T, fz, e1, e2, e3, e4, e5, e6⟩
  · simp only [List.cons.injEq, Value.slice.injEq, and_true] at e1
    obtain ⟨rfl, rfl, rfl⟩ := e1
    simp only [List.length_nil] at hb
    have h1 : hi.getD ([] : List τ.den).length = 0 := by simpa using hb
    have : lo = 0 := by omega
    have : m = 0 := by omega
    subst_vars
    refine ⟨rfl, .inl ⟨by rw [h1]; simp, ?_⟩⟩
    unfold sliceFz; split <;> simp
  · simp only [List.cons.injEq, Value.slice.injEq, and_true] at e1
    obtain ⟨rfl, rfl, rfl⟩ := e1
    refine ⟨rfl, .inr ⟨cb, if m = lo then off else off + lo * τ.size, m - lo, c, T, fz, ?_, by rw [hlen]; omega, e3, e4, ?_, ?_⟩⟩
    · rw [hlen]; split
      · rfl
      · simp [addr_add]
    · rw [hlen]
      split
      · have : hi.getD l.length - lo = 0 := by omega
        rw [this]; omega
      · have : (lo + (hi.getD l.length - lo)) * τ.size ≤ l.length * τ.size := Nat.mul_le_mul_right _ (by omega)
        rw [Nat.add_mul] at this; omega
    · intro i x hx
      have hi' := getElem?_sliceFz l lo hi hh i x hx
      have hlt : i < hi.getD l.length - lo := by
        rw [← hlen]; exact (List.getElem?_eq_some_iff.1 hx).1
      rw [if_neg (by omega)]
      have := e6 _ _ hi'
      rw [Nat.add_mul] at this
      rw [Nat.add_assoc]; exact this

theorem sliceE_ok (hT : TOK P T) {t : TypeId} {x : Operand} {lo hi mx : Option Operand} (ho : o.op = .slice t x lo hi mx) :
    SOp P o ev M (R := R) (sliceE T M t (ev x) (lo.map ev) (hi.map ev) (mx.map ev)) := by
  intro c r hr
  unfold sliceE at hr
  have hkt : (T t).kind ≠ .bad := fun hk => by simp [hk] at hr
  obtain ⟨i1, d1, a1, a2, a3, _⟩ := hT.info hkt
  rw [a3] at hr
  have rel : ∀ {β : Nat → Option Loc} {M2 : Mem} {Z : Nat → Prop} {a : Act} {w : World}, (∀ y ∈ o.op.operands.toList, RV β M2 Z w.heap (ev y) (a.eval y)) →
      RV β M2 Z w.heap (ev x) (a.eval x) ∧ ORV β M2 Z w.heap (lo.map ev) (lo.map a.eval) ∧ ORV β M2 Z w.heap (hi.map ev) (hi.map a.eval) ∧ ORV β M2 Z w.heap (mx.map ev) (mx.map a.eval) := by
    intro β M2 Z a w hxs
    exact ⟨hxs x ((mem_ops4 ho).2 (.inl rfl)), ORV.map fun y hy => hxs y ((mem_ops4 ho).2 (.inr (.inl hy))), ORV.map fun y hy => hxs y ((mem_ops4 ho).2 (.inr (.inr (.inl hy)))),
      ORV.map fun y hy => hxs y ((mem_ops4 ho).2 (.inr (.inr (.inr hy))))⟩
  cases d1 <;> cases hx : ev x <;> simp only [K.of, hx, reduceCtorEq] at hr
  case string.str s =>
    cases hmx : mx.map ev with
    | some _ => simp [hmx] at hr
    | none =>
      simp only [hmx] at hr
      obtain ⟨l, hh, hc, h1, h2, _, h3⟩ := cutE_spec (P := P) hr
      have key : ∀ val, c { val := val } = some r → val = .str (s.extract l (hh.getD s.size)) → ∃ eff, OpOK P o ev M eff ∧ c eff = some r := by
        intro val hc hval
        refine ⟨_, OpOK.pure rfl fun M2 hM β Z a w hm hxs => ?_, hc⟩
        obtain ⟨p1, p2, p3, p4⟩ := rel hxs
        rw [hx] at p1
        rw [hmx] at p4
        obtain ⟨m, q1, q2, q3, q4⟩ := h3 _ _ _ _ _ _ _ p2 p3 (show ORV β M2 Z w.heap none none from trivial) false s.size w (Nat.le_refl _)
        refine ⟨.string (s.extract l (hh.getD s.size)), ?_, by rw [hval]; exact .str _⟩
        have hmx' : mx = none := by cases mx with | none => rfl | some _ => simp at hmx
        subst hmx'
        simp only [execOp, ho, Sem.run_bind, p1.str_inv, sliceAt_string a2, Instr.slice, run_underlying a2, Result.andThen_ok, Option.map_none, Option.isSome_none, Bool.false_eq_true, if_false, Sem.run_pure, q1]
      cases hh with
      | none => exact key _ hc (by simp)
      | some x => exact key _ hc (by simp)
  case slice.sl el b i m g =>
    have hke : (T el).kind ≠ .bad := fun hk => by cases M b <;> simp [hk] at hr
    obtain ⟨i2, d2, b1, b2, b3, b4, _⟩ := hT.info hke
    cases hb : M b <;> simp only [hb] at hr
    case row τ rw' g' ro =>
      have hr' : (bif Nat.beq g g' && Nat.beq i2.size τ.size then
        cutE (lenOf rw' i m) (lo.map ev) (hi.map ev) (mx.map ev) fun l h => match h, m with
          | none, none => c { val := .sl b (l + i) none g, fp := [b] }
          | none, some m => c { val := .sl b (l + i) (some (m - l)) g, fp := [b] }
          | some h, _ => c { val := .sl b (l + i) (some (h - l)) g, fp := [b] }
        else none) = some r := by
        rw [← b4]; revert hr; cases hk : (T el).kind <;> first | exact absurd hk hke | exact id
      cases hq : (Nat.beq g g' && Nat.beq i2.size τ.size) with
      | false => rw [hq] at hr'; cases hr'
      | true =>
        rw [hq] at hr'
        simp only [cond_true] at hr'
        simp only [Bool.and_eq_true] at hq
        have q1 := Nat.eq_of_beq_eq_true hq.1
        have q2 := Nat.eq_of_beq_eq_true hq.2
        subst q1
        obtain ⟨l, hh, hc, h1, h2, _, h3⟩ := cutE_spec (P := P) hr'
        have key : ∀ m', c { val := .sl b (l + i) m' g, fp := [b] } = some r → ((m' = none ∧ m = none ∧ hh.getD (lenOf rw' i m) = lenOf rw' i m) ∨ m' = some (hh.getD (lenOf rw' i m) - l)) → ∃ eff, OpOK P o ev M eff ∧ c eff = some r := by
          intro m' hc hm'
          refine ⟨_, OpOK.pure rfl fun M2 hM β Z a w hm hxs => ?_, hc⟩
          obtain ⟨p1, p2, p3, p4⟩ := rel hxs
          rw [hx] at p1
          have hb2 : M2 b = .row τ rw' g ro := by rw [hM b (by simp)]; exact hb
          have hgen : (M2 b).gen = some g := by simp [hb2, Blk.gen]
          have hs := p1.sl_inv hgen
          obtain ⟨ad, cap, e1, e2⟩ := hs.len hm hb2
          rw [e1] at hs
          obtain ⟨mm, r1, r2, r3, _⟩ := h3 _ _ _ _ _ _ _ p2 p3 p4 true cap w e2
          have hle : hh.getD (lenOf rw' i m) ≤ lenOf rw' i m := by
            cases hh with
            | none => simp
            | some x => simpa using h1 x rfl
          have hcut := hs.cut (sz0 := i2.size) (fun cb base sz top e => by rw [SlOk.size hm hb2 cb base sz top e, q2]) h2 hle r2 r3 m' hm'
          refine ⟨_, ?_, .sl b (l + i) m' g _ rfl (by simp [hb2]) fun g0 hg0 => by rw [hgen] at hg0; cases hg0; exact ⟨Nat.le_refl _, fun _ => hcut⟩⟩
          have := run_slice (P := P) a2 b1 (a := ad) r1
          simp only [execOp, ho, Sem.run_bind, e1, this, Result.andThen_ok, Sem.run_pure]
        cases hh with
        | none => cases m with
          | none => exact key none hc (.inl ⟨rfl, rfl, by simp⟩)
          | some m0 => exact key _ hc (.inr (by simp [lenOf]))
        | some x => cases m with
          | none => exact key _ hc (.inr (by simp))
          | some m0 => exact key _ hc (.inr (by simp))
    all_goals (revert hr; cases hk : (T el).kind <;> first | exact absurd hk hke | (intro hr; cases hr))
  case slice.fz el τ rw' =>
    have hke : (T el).kind ≠ .bad := fun hk => by simp [hk] at hr
    obtain ⟨i2, d2, b1, b2, b3, b4, _⟩ := hT.info hke
    have hr' : (bif Nat.beq i2.size τ.size then cutE rw'.length (lo.map ev) (hi.map ev) (mx.map ev) fun l h => c { val := .fz τ (sliceFz rw' l h) } else none) = some r := by
      rw [← b4]; revert hr; cases hk : (T el).kind <;> first | exact absurd hk hke | exact id
    cases hq : (Nat.beq i2.size τ.size) with
    | false => rw [hq] at hr'; cases hr'
    | true =>
      rw [hq] at hr'
      simp only [cond_true] at hr'
      have q2 := Nat.eq_of_beq_eq_true hq
      obtain ⟨l, hh, hc, h1, h2, _, h3⟩ := cutE_spec (P := P) hr'
      refine ⟨_, OpOK.pure rfl fun M2 hM β Z a w hm hxs => ?_, hc⟩
      obtain ⟨p1, p2, p3, p4⟩ := rel hxs
      rw [hx] at p1
      have hd := p1.fz_inv
      obtain ⟨ad, len, cap, e1, e2⟩ : ∃ ad len cap, a.eval x = .slice ad len cap ∧ rw'.length ≤ cap := by
        have hd' := hd
        simp only [RD] at hd'
        rcases hd' with ⟨e1, rfl⟩ | ⟨cb, off, cap, c', Te, fz', e1, e2, _⟩
        · simp only [List.cons.injEq, and_true] at e1; exact ⟨_, _, _, e1, by simp⟩
        · simp only [List.cons.injEq, and_true] at e1; exact ⟨_, _, _, e1, e2⟩
      rw [e1] at hd
      obtain ⟨mm, r1, r2, r3, _⟩ := h3 _ _ _ _ _ _ _ p2 p3 p4 true cap w e2
      obtain ⟨hlen, hd2⟩ := RD.slice q2 hd h2 h1 r2 r3
      refine ⟨_, ?_, .fz τ _ _ hd2⟩
      rw [← hlen] at r1
      have := run_slice (P := P) a2 b1 (a := ad) r1
      rw [← hlen]
      simp only [execOp, ho, Sem.run_bind, e1, this, Result.andThen_ok, Sem.run_pure]
  case slice.nils el =>
    have hke : (T el).kind ≠ .bad := fun hk => by simp [hk] at hr
    obtain ⟨i2, d2, b1, b2, b3, b4, _⟩ := hT.info hke
    have hr' : (match mx.map ev with
      | none => cutE 0 (lo.map ev) (hi.map ev) none fun _ _ => c { val := .nils }
      | some _ => none) = some r := by
      revert hr; cases hk : (T el).kind <;> first | exact absurd hk hke | exact id
    cases hmx : mx.map ev with
    | some _ => simp [hmx] at hr'
    | none =>
      simp only [hmx] at hr'
      obtain ⟨l, hh, hc, h1, h2, _, h3⟩ := cutE_spec (P := P) hr'
      refine ⟨_, OpOK.pure rfl fun M2 hM β Z a w hm hxs => ?_, hc⟩
      obtain ⟨p1, p2, p3, p4⟩ := rel hxs
      rw [hx] at p1
      rw [hmx] at p4
      obtain ⟨m, q1, q2, q3, q4⟩ := h3 _ _ _ _ _ _ _ p2 p3 p4 true 0 w (Nat.le_refl _)
      have e1 : hh.getD 0 = 0 := by
        cases hh with
        | none => rfl
        | some x => have := h1 x rfl; simpa using this
      rw [e1] at h2 q1
      have e2 : l = 0 := by omega
      have e3 : m = 0 := by omega
      subst e2; subst e3
      have := run_slice (P := P) a2 b1 (a := none) q1
      refine ⟨.slice none 0 0, ?_, .nils⟩
      simp only [execOp, ho, Sem.run_bind, p1.nils_inv, this, Result.andThen_ok, Sem.run_pure]
      rfl
  case array.ptr n el b i j g =>
    have hke : (T el).kind ≠ .bad := fun hk => by simp [hk] at hr
    obtain ⟨i2, d2, b1, b2, b3, b4, _⟩ := hT.info hke
    have hr' : (match M b, lo.map ev, mx.map ev with
      | .box cells, none, none => bif Nat.beq i 0 && Nat.beq g 0 && Nat.ble (j + n * i2.size) cells.length then cutE n none (hi.map ev) none fun _ h => c { val := .sb b j i2.size (h.getD n), fp := [b] } else none
      | _, _, _ => none) = some r := by
      rw [← b4]; revert hr; cases hk : (T el).kind <;> first | exact absurd hk hke | exact id
    cases hb : M b <;> simp only [hb, reduceCtorEq] at hr'
    rename_i cells
    cases lo <;> cases mx <;> simp only [Option.map_none, Option.map_some, reduceCtorEq] at hr'
    cases hq : (Nat.beq i 0 && Nat.beq g 0 && Nat.ble (j + n * i2.size) cells.length) with
    | false => rw [hq] at hr'; cases hr'
    | true =>
      rw [hq] at hr'
      simp only [cond_true] at hr'
      simp only [Bool.and_eq_true] at hq
      have q1 := Nat.eq_of_beq_eq_true hq.1.1
      have q2 := Nat.eq_of_beq_eq_true hq.1.2
      have q3 := Nat.le_of_ble_eq_true hq.2
      subst q1; subst q2
      obtain ⟨l, hh, hc, k1, k2, _, k3⟩ := cutE_spec (P := P) hr'
      refine ⟨_, OpOK.pure rfl fun M2 hM β Z a w hm hxs => ?_, hc⟩
      obtain ⟨p1, p2, p3, p4⟩ := rel hxs
      rw [hx] at p1
      have hb2 : M2 b = .box cells := by rw [hM b (by simp)]; exact hb
      obtain ⟨hi0, cb, base, sz, top, e1, e2⟩ := p1.ptr_inv (by simp [hb2, Blk.gen])
      obtain ⟨m, n1, n2, n3, n4⟩ := k3 _ _ _ _ _ _ _ (show ORV β M2 Z w.heap none none from trivial) p3 (show ORV β M2 Z w.heap none none from trivial) false n w (Nat.le_refl _)
      have hm' := n4 rfl
      subst hm'
      have hl0 : l = 0 := by
        have hrun := n1
        simp only [Instr.sliceBounds, Sem.run_bind, Sem.run_pure, Result.andThen_ok] at hrun
        cases hi with
        | none =>
          simp at hrun
          omega
        | some y =>
          simp only [Option.map_some, Sem.run_bind] at hrun
          cases hrr : (Instr.sliceBound (a.eval y) m (if false = true then .sliceAcap else .sliceAlen)).run P w with
          | ok v w' =>
            rw [hrr] at hrun
            simp [Result.andThen] at hrun
            omega
          | halt _ _ =>
            rw [hrr] at hrun
            simp [Result.andThen] at hrun
      subst hl0
      have hhn : hh.getD m ≤ m := n2
      have hmul : hh.getD m * i2.size ≤ m * i2.size := Nat.mul_le_mul_right _ hhn
      refine ⟨.slice (some ⟨cb, base + j, none⟩) (hh.getD m) m, ?_, .sb b j _ (hh.getD m) _ rfl (by simp [hb2]) fun g0 _ _ => ⟨by simp only [hb2, Blk.len]; omega, by simp [hb2, Blk.isBox], cb, base, sz, top, m, e1, rfl, hhn, by simp only [hb2, Blk.len]; exact q3⟩⟩
      simp [execOp, ho, Instr.sliceAt, run_underlying a2, e2, Instr.sureAddr, run_sizeOf' b1, Addr.add, n1]

theorem lenE_ok (hT : TOK P T) {q : Call} {t : TypeId} {x : Operand} (ho : o.op = .call q) (hq : q.callee = .builtin .len) (hargs : q.args.toList[0]? = some x) (hts : q.argTypes.toList[0]? = some t) :
    SOp P o ev M (R := R) (lenE T M t (ev x)) := by
  intro c r hr
  unfold lenE at hr
  have hkt : (T t).kind ≠ .bad := fun hk => by simp [hk] at hr
  obtain ⟨i1, d1, a1, a2, a3, _⟩ := hT.info hkt
  rw [a3] at hr
  have ha0 : q.args[0]? = some x := by simpa using hargs
  have ht0 : q.argTypes[0]? = some t := by simpa using hts
  have hxm : x ∈ o.op.operands.toList := by
    simp [ho, Op.operands, Call.operands, hq]
    exact Array.mem_of_getElem? ha0
  have fin : ∀ {a : Act} {w : World} {n : Nat}, (Builtin.len_ q.argTypes o.type (q.args.map a.eval)).run P w = .ok (.int .i64 n) w → (execOp a.eval o).run P w = .ok (.value (.int .i64 n)) w := by
    intro a w n hrun
    simp [execOp, ho, resolve, hq, invoke, builtin, hrun]
  have op0 : ∀ {a : Act}, (q.args.map a.eval)[0]? = some (a.eval x) := by intro a; simp [ha0]
  have run : ∀ {a : Act} {w : World} {n : Nat} , (match d1, a.eval x with
      | .string, .string s => n = s.size
      | .array m _, _ => n = m
      | .slice _, .slice _ m _ => n = m
      | _, _ => False) → (Builtin.len_ q.argTypes o.type (q.args.map a.eval)).run P w = .ok (.int .i64 n) w := by
    intro a w n hm
    unfold Builtin.len_
    simp only [ht0, op0, Sem.run_bind, run_underlying a2, Result.andThen_ok]
    split at hm
    · subst hm; simp [*, goInt]
    · subst hm; simp [goInt]
    · subst hm; simp [*, goInt]
    · exact hm.elim
  cases d1 <;> cases hx : ev x <;> simp only [K.of, hx, reduceCtorEq] at hr
  case slice.sl el b i m g =>
    cases hb : M b <;> simp only [hb, reduceCtorEq] at hr
    rename_i τ l g' ro
    cases hq' : Nat.beq g g' with
    | false => rw [hq'] at hr; cases hr
    | true =>
      rw [hq'] at hr
      have q1 := Nat.eq_of_beq_eq_true hq'
      subst q1
      refine ⟨_, OpOK.pure rfl fun M2 hM β Z a w hm hxs => ?_, hr⟩
      have p1 := hxs x hxm
      rw [hx] at p1
      have hb2 : M2 b = .row τ l g ro := by rw [hM b (by simp)]; exact hb
      obtain ⟨ad, cap, e1, e2⟩ := (p1.sl_inv (by simp [hb2, Blk.gen])).len hm hb2
      exact ⟨_, fin (run (by simp only [e1])), .int _ _⟩
  case slice.sb el b j s n =>
    cases hb : M b <;> simp only [hb, reduceCtorEq] at hr
    rename_i cells
    refine ⟨_, OpOK.pure rfl fun M2 hM β Z a w hm hxs => ?_, hr⟩
    have p1 := hxs x hxm
    rw [hx] at p1
    have hb2 : M2 b = .box cells := by rw [hM b (by simp)]; exact hb
    obtain ⟨_, _, cb, base, sz, top, cap, _, s4, _⟩ := p1.sb_inv (by simp [hb2, Blk.gen])
    exact ⟨_, fin (run (by simp only [s4])), .int _ _⟩
  case slice.fz el τ l =>
    refine ⟨_, OpOK.pure rfl fun M2 hM β Z a w hm hxs => ?_, hr⟩
    have p1 := hxs x hxm
    rw [hx] at p1
    have hd' := p1.fz_inv
    simp only [RD] at hd'
    rcases hd' with ⟨e1, rfl⟩ | ⟨cb, off, cap, c', Te, fz', e1, e2, _⟩
    · simp only [List.cons.injEq, and_true] at e1; exact ⟨_, fin (run (by simp only [e1]; rfl)), .int _ _⟩
    · simp only [List.cons.injEq, and_true] at e1; exact ⟨_, fin (run (by simp only [e1])), .int _ _⟩
  case slice.nils el =>
    refine ⟨_, OpOK.pure rfl fun M2 hM β Z a w hm hxs => ?_, hr⟩
    have p1 := hxs x hxm
    rw [hx] at p1
    exact ⟨_, fin (run (by simp only [p1.nils_inv])), .int _ _⟩
  case string.str s =>
    refine ⟨_, OpOK.pure rfl fun M2 hM β Z a w hm hxs => ?_, hr⟩
    have p1 := hxs x hxm
    rw [hx] at p1
    exact ⟨_, fin (run (by simp only [p1.str_inv])), .int _ _⟩
  all_goals
    refine ⟨_, OpOK.pure rfl fun M2 hM β Z a w hm hxs => ?_, hr⟩
    exact ⟨_, fin (run rfl), .int _ _⟩

end
end Go.Pv
