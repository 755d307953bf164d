/-
  The law IcodeTables returns true for every operation and every string.
-/
import Derived.Test.YtidbhhfilhognaaR1Tables
import Derived.Laws.Strings
namespace Go.Pv
open Go.Proofs
set_option maxRecDepth 1000000

theorem kn_iff {k : Int} : kn k = true ↔ 1 ≤ k ∧ k ≤ 38 := by simp [kn]
def dom (k : Int) : Bool := decide (0 ≤ k) && decide (k ≤ 255)
theorem dom_cases {k : Int} (h : dom k = true) : (kn k = true ∧ 1 ≤ k ∧ k ≤ 38) ∨ (kn k = false ∧ outK k = true) := by
  simp only [dom, Bool.and_eq_true, decide_eq_true_eq] at h
  by_cases c : 1 ≤ k ∧ k ≤ 38
  · exact .inl ⟨kn_iff.2 c, c⟩
  · refine .inr ⟨?_, ?_⟩
    · cases e : kn k with
      | false => rfl
      | true => exact absurd (kn_iff.1 e) c
    · simp only [outK, Bool.or_eq_true, Bool.and_eq_true, decide_eq_true_eq]; omega

/-- of every operation: known or not -/
theorem onDom {sr : Sig} {f : FuncId} {g : Int → Shape.den (resShape 0 sr)} (h1 : ∀ k : Int, 1 ≤ k → k ≤ 38 → kn k = true → evalF Try.prog tt call0 [] f sOp sr (k, ()) = some (g k))
    (h2 : ∀ k : Int, outK k = true → kn k = false → ∃ callE : (R : Type) → CallE R, (∀ R, CallsOK Try.prog (callE R)) ∧ evalF Try.prog tt callE [] f sOp sr (k, ()) = some (g k)) :
    FnOK Try.prog f sOp sr fun x => bif dom x.1 then some (g x.1) else none := fnSome fun x y hF => by
  obtain ⟨k, ⟨⟩⟩ := x
  change (bif dom k then some (g k) else none) = some y at hF
  cases ho : dom k with
  | false => rw [ho] at hF; cases hF
  | true =>
    rw [ho] at hF
    rcases dom_cases ho with ⟨e, c1, c2⟩ | ⟨e, c⟩
    · exact ⟨_, call0_ok, [], (h1 k c1 c2 e).trans hF⟩
    · obtain ⟨callE, q1, q2⟩ := h2 k c e
      exact ⟨callE, q1, [], q2.trans hF⟩

theorem ch_out {k : Int} (h : outK k = true) : ∀ {l : List (Int × Int)}, (l.all fun c => decide (1 ≤ c.1) && decide (c.1 ≤ 38)) = true → ch l k = some (0, ())
  | [], _ => rfl
  | c :: r, hl => by
    simp only [List.all_cons, Bool.and_eq_true, decide_eq_true_eq] at hl
    have : (k == c.1) = false := by
      rcases outK_cases h with h | h <;> simp <;> omega
    simp only [ch, this, cond_false]
    exact ch_out h hl.2

theorem on24 {f : FuncId} {l : List (Int × Int)} (hl : (l.all fun c => decide (1 ≤ c.1) && decide (c.1 ≤ 38)) = true) (hv : ∀ k, evalF Try.prog tt call0 [] f sOp [.val (.int .u8)] (k, ()) = ch l k) :
    FnOK Try.prog f sOp [.val (.int .u8)] fun x => bif outK x.1 then some (0, ()) else none := fnSome fun x y hF => by
  obtain ⟨k, ⟨⟩⟩ := x
  change (bif outK k then some (0, ()) else none) = some y at hF
  cases ho : outK k with
  | false => rw [ho] at hF; cases hF
  | true => rw [ho] at hF; exact ⟨_, call0_ok, [], (hv k).trans ((ch_out ho hl).trans hF)⟩

theorem count46 (fn : Func) (h : Try.prog.funcs[46]? = some fn) : fn.results.size = 1 := by
  have : (Try.prog.funcs[46]?).map (fun fn => fn.results.size) = some 1 := by kernel_rfl
  rw [h] at this; simpa using this
theorem count47 (fn : Func) (h : Try.prog.funcs[47]? = some fn) : fn.results.size = 1 := by
  have : (Try.prog.funcs[47]?).map (fun fn => fn.results.size) = some 1 := by kernel_rfl
  rw [h] at this; simpa using this
theorem count48 (fn : Func) (h : Try.prog.funcs[48]? = some fn) : fn.results.size = 1 := by
  have : (Try.prog.funcs[48]?).map (fun fn => fn.results.size) = some 1 := by kernel_rfl
  rw [h] at this; simpa using this
theorem count18 (fn : Func) (h : Try.prog.funcs[18]? = some fn) : fn.results.size = 1 := by
  have : (Try.prog.funcs[18]?).map (fun fn => fn.results.size) = some 1 := by kernel_rfl
  rw [h] at this; simpa using this
theorem count21 (fn : Func) (h : Try.prog.funcs[21]? = some fn) : fn.results.size = 1 := by
  have : (Try.prog.funcs[21]?).map (fun fn => fn.results.size) = some 1 := by kernel_rfl
  rw [h] at this; simpa using this
theorem count25 (fn : Func) (h : Try.prog.funcs[25]? = some fn) : fn.results.size = 1 := by
  have : (Try.prog.funcs[25]?).map (fun fn => fn.results.size) = some 1 := by kernel_rfl
  rw [h] at this; simpa using this
theorem count26 (fn : Func) (h : Try.prog.funcs[26]? = some fn) : fn.results.size = 1 := by
  have : (Try.prog.funcs[26]?).map (fun fn => fn.results.size) = some 1 := by kernel_rfl
  rw [h] at this; simpa using this
theorem count27 (fn : Func) (h : Try.prog.funcs[27]? = some fn) : fn.results.size = 2 := by
  have : (Try.prog.funcs[27]?).map (fun fn => fn.results.size) = some 2 := by kernel_rfl
  rw [h] at this; simpa using this
theorem count6 (fn : Func) (h : Try.prog.funcs[6]? = some fn) : fn.results.size = 1 := by
  have : (Try.prog.funcs[6]?).map (fun fn => fn.results.size) = some 1 := by kernel_rfl
  rw [h] at this; simpa using this
theorem flat_str : ∀ s ∈ ([.val .str] : Sig), s.flat = true := by intro s hs; simp at hs; subst hs; rfl
theorem flat_rstr : ∀ s ∈ ([.row .str] : Sig), s.flat = true := by intro s hs; simp at hs; subst hs; rfl
theorem flat_form : ∀ s ∈ ([.agg tForm] : Sig), s.flat = true := by intro s hs; simp at hs; subst hs; rfl
theorem flat_by : ∀ s ∈ ([.val (.int .u8), .val .bool] : Sig), s.flat = true := by intro s hs; simp at hs; rcases hs with rfl | rfl <;> rfl

theorem specsV_ok (R : Type) : SpecOK Try.prog (specsV outK R) := by
  intro f s hs
  unfold specsV at hs
  split at hs
  · cases hs; exact specD_ok (on24 (by decide) v46) flat_u8 count46
  · cases hs; exact specD_ok (on24 (by decide) v47) flat_u8 count47
  · cases hs; exact specD_ok (on24 (by decide) v48) flat_u8 count48
  · cases hs
theorem callV_ok (R : Type) : CallsOK Try.prog (callV outK R) := callsE_ok tt_ok mixed names (specsV_ok R) 20

/-! ### What each function answers -/
def byN (s : ByteArray) : Int × Bool := match bn NL 1 s with
  | some y => (y.1, y.2.1)
  | none => (0, false)
theorem bn_some : ∀ (l : List ByteArray) (i : Int) (s : ByteArray), ∃ y, bn l i s = some y
  | [], _, _ => ⟨_, rfl⟩
  | n :: r, i, s => by
    simp only [bn]
    cases n.toList == s.toList
    · exact bn_some r (i + 1) s
    · exact ⟨_, rfl⟩
theorem byN_eq (s : ByteArray) : bn NL 1 s = some ((byN s).1, (byN s).2, ()) := by
  obtain ⟨⟨y1, y2, ⟨⟩⟩, h⟩ := bn_some NL 1 s
  unfold byN
  rw [h]

noncomputable def g6 : G6 := { D := dom, g18 := NL, g19 := kn, g20 := kn, g21 := nm, g17 := ln, g22 := ln, g23 := kd, g24 := kd, g25 := fm, g26 := fm, g27 := byN }

theorem ne7 {k : Int} (h : outK k = true) : (k == 7) = false := by rcases outK_cases h with h | h <;> simp <;> omega
theorem ne30 {k : Int} (h : outK k = true) : (k == 30) = false := by rcases outK_cases h with h | h <;> simp <;> omega

theorem d19 : FnOK Try.prog 19 sOp [.val .bool] fun x => bif dom x.1 then some (kn x.1, ()) else none :=
  onDom (sr := [.val .bool]) (f := 19) (g := fun k => (kn k, ())) (fun k h1 h2 e => by rw [e]; exact isB_eq (each38_at u19 h1 h2)) (fun k h e => ⟨_, call0_ok, by rw [e]; exact e19_out h⟩)
theorem d20 : FnOK Try.prog 20 sOp [.val .bool] fun x => bif dom x.1 then some (kn x.1, ()) else none :=
  onDom (sr := [.val .bool]) (f := 20) (g := fun k => (kn k, ())) (fun k h1 h2 e => by rw [e]; exact isB_eq (each38_at t20 h1 h2)) (fun k h e => ⟨_, call0_ok, by rw [e]; exact e20_out h⟩)
theorem d21 : FnOK Try.prog 21 sOp [.val .str] fun x => bif dom x.1 then some (nm x.1, ()) else none :=
  onDom (sr := [.val .str]) (f := 21) (g := fun k => (nm k, ())) (fun k h1 h2 e => isS_eq (each38_at u21 h1 h2)) (fun k h e => ⟨_, callU_ok, (v21 k).trans (by rw [h]; unfold nm; rw [e]; rfl)⟩)
theorem d17 : FnOK Try.prog 17 sOp [.val tI] fun x => bif dom x.1 then some (ln x.1, ()) else none :=
  onDom (sr := [.val tI]) (f := 17) (g := fun k => (ln k, ())) (fun k h1 h2 e => by unfold ln; rw [e]; exact isI_eq (each38_at t17 h1 h2)) (fun k h e => ⟨_, callU_ok, (v17 k).trans (by rw [h]; unfold ln; rw [e]; rfl)⟩)
theorem d22 : FnOK Try.prog 22 sOp [.val tI] fun x => bif dom x.1 then some (ln x.1, ()) else none :=
  onDom (sr := [.val tI]) (f := 22) (g := fun k => (ln k, ())) (fun k h1 h2 e => by unfold ln; rw [e]; exact isI_eq (each38_at t22 h1 h2)) (fun k h e => ⟨_, callU_ok, (v22 k).trans (by rw [h]; unfold ln; rw [e]; rfl)⟩)
theorem d23 : FnOK Try.prog 23 sOp [.val (.int .u8)] fun x => bif dom x.1 then some (kd x.1, ()) else none :=
  onDom (sr := [.val (.int .u8)]) (f := 23) (g := fun k => (kd k, ())) (fun k h1 h2 e => by unfold kd; rw [e]; exact isI_eq (each38_at t23 h1 h2)) (fun k h e => ⟨_, callU_ok, (v23 k).trans (by rw [h]; unfold kd; rw [e]; rfl)⟩)
theorem d24 : FnOK Try.prog 24 sOp [.val (.int .u8)] fun x => bif dom x.1 then some (kd x.1, ()) else none :=
  onDom (sr := [.val (.int .u8)]) (f := 24) (g := fun k => (kd k, ())) (fun k h1 h2 e => by unfold kd; rw [e]; exact isI_eq (each38_at t24 h1 h2)) (fun k h e => ⟨_, call0_ok, (v24 k).trans (by rw [ch_out h (by decide)]; unfold kd; rw [e]; rfl)⟩)
theorem d25 : FnOK Try.prog 25 sOp [.agg tForm] fun x => bif dom x.1 then some (fm x.1, ()) else none :=
  onDom (sr := [.agg tForm]) (f := 25) (g := fun k => (fm k, ())) (fun k h1 h2 e => by unfold fm; rw [e]; exact (sameF_eq (each38_at u25 h1 h2)).1) (fun k h e => ⟨_, callU_ok, (v25 k).trans (by rw [h, ne7 h]; unfold fm; rw [e]; rfl)⟩)
theorem d26 : FnOK Try.prog 26 sOp [.agg tForm] fun x => bif dom x.1 then some (fm x.1, ()) else none :=
  onDom (sr := [.agg tForm]) (f := 26) (g := fun k => (fm k, ())) (fun k h1 h2 e => by unfold fm; rw [e]; exact (sameF_eq (each38_at u25 h1 h2)).2) (fun k h e => ⟨_, callV_ok, (v26 outK k).trans (by rw [h, ne7 h, ne30 h]; unfold fm; rw [e]; rfl)⟩)
theorem d18 : FnOK Try.prog 18 [] [.row .str] fun _ => bif true then some (NL, ()) else none := fnSome fun x y hF => ⟨_, call0_ok, [], by obtain ⟨⟩ := x; exact u18.trans hF⟩
theorem d27 : FnOK Try.prog 27 [.val .str] [.val (.int .u8), .val .bool] fun x => bif true then some ((byN x.1).1, (byN x.1).2, ()) else none := fnSome fun x y hF => ⟨_, call0_ok, [], by obtain ⟨s, ⟨⟩⟩ := x; exact (u27 s).trans ((byN_eq s).trans hF)⟩

theorem specs6_ok (R : Type) : SpecOK Try.prog (specs6 g6 R) := by
  intro f s hs
  unfold specs6 at hs
  split at hs
  · cases hs; exact constE_ok livesOK
  · cases hs; exact specD_ok d18 flat_rstr count18
  · cases hs; exact specD_ok d19 flat_bool count19
  · cases hs; exact specD_ok d20 flat_bool count20
  · cases hs; exact specD_ok d21 flat_str count21
  · cases hs; exact specD_ok d17 flat_int count17
  · cases hs; exact specD_ok d22 flat_int count22
  · cases hs; exact specD_ok d23 flat_u8 count23
  · cases hs; exact specD_ok d24 flat_u8 count24
  · cases hs; exact specD_ok d25 flat_form count25
  · cases hs; exact specD_ok d26 flat_form count26
  · cases hs; exact specD_ok d27 flat_by count27
  · cases hs
theorem call6_ok (R : Type) : CallsOK Try.prog (call6 g6 R) := callsE_ok tt_ok mixed names (specs6_ok R) 20

/-! ### The loop over the names -/
def fnd : List ByteArray → Int → Int → ByteArray → Int
  | [], _, found, _ => found
  | n :: r, i, found, s => fnd r (i + 1) (bif n.toList == s.toList then i + 1 else found) s

theorem loop6_end (op : Int) (s name : ByteArray) (l : List ByteArray) (hl : l.length ≤ 200) : ∀ (n i : Nat) (found : Int), i + n = l.length →
    lim (S6 g6) (op, s, l, name, found, (i : Int), ()) = some (.inl (op, s, name, fnd (l.drop i) i found s, ()))
  | 0, i, found, h => by
    refine lim_end ?_
    rw [S6_eq, decide_eq_false (by omega), List.drop_of_length_le (by omega)]
    rfl
  | n + 1, i, found, h => by
    have hi : i < l.length := by omega
    have h2 : inRange (i : Int) l.length = true := by simp [inRange]; omega
    have hs : S6 g6 (op, s, l, name, found, (i : Int), ()) = some (.inl (op, s, l, name, (bif l[i].toList == s.toList then (i : Int) + 1 else found), ((i + 1 : Nat) : Int), ())) := by
      rw [S6_eq, decide_eq_true (by omega), h2, small_wrap (by omega) (by omega), u8_small (by omega) (by omega)]
      have : l.getD ((i : Int).toNat + 0) ⟨#[]⟩ = l[i] := by simp [List.getD, hi]
      rw [this]
      simp only [cond_true]
      cases l[i].toList == s.toList <;> rfl
    rw [lim_next hs, loop6_end op s name l hl n (i + 1) _ (by omega), List.drop_eq_getElem_cons hi]
    rfl

theorem none_bn : ∀ {l : List ByteArray} {i : Int} {s : ByteArray}, (∀ n ∈ l, (n.toList == s.toList) = false) → bn l i s = some (0, false, ())
  | [], _, _, _ => rfl
  | n :: r, i, s, h => by
    simp only [bn, h n (by simp), cond_false]
    exact none_bn fun m hm => h m (by simp [hm])
theorem none_fnd : ∀ {l : List ByteArray} {i found : Int} {s : ByteArray}, (∀ n ∈ l, (n.toList == s.toList) = false) → fnd l i found s = found
  | [], _, _, _, _ => rfl
  | n :: r, i, found, s, h => by
    simp only [fnd, h n (by simp), cond_false]
    exact none_fnd fun m hm => h m (by simp [hm])

theorem each_name : each38 (fun k => (match bn NL 1 (NL.getD (k - 1).toNat ⟨#[]⟩) with
    | some y => decide (y.1 = k) && y.2.1
    | none => false) && decide (fnd NL 0 0 (NL.getD (k - 1).toNat ⟨#[]⟩) = k)) = true := by kernel_rfl
theorem name_ne : each38 (fun k => strNe (NL.getD (k - 1).toNat ⟨#[]⟩) ⟨#[]⟩) = true := by kernel_rfl
theorem no_empty : byN ⟨#[]⟩ = (0, false) := by
  have : (match bn NL 1 ⟨#[]⟩ with
    | some y => decide (y.1 = 0) && !y.2.1
    | none => false) = true := by kernel_rfl
  unfold byN
  obtain ⟨⟨y1, y2, ⟨⟩⟩, h⟩ := bn_some NL 1 ⟨#[]⟩
  rw [h] at this ⊢
  simp only [Bool.and_eq_true, decide_eq_true_eq, Bool.not_eq_true'] at this
  rw [this.1, this.2]

theorem name_at {k : Int} (h1 : 1 ≤ k) (h2 : k ≤ 38) : byN (NL.getD (k - 1).toNat ⟨#[]⟩) = (k, true) ∧ fnd NL 0 0 (NL.getD (k - 1).toNat ⟨#[]⟩) = k := by
  have := each38_at each_name h1 h2
  obtain ⟨⟨y1, y2, ⟨⟩⟩, h⟩ := bn_some NL 1 (NL.getD (k - 1).toNat ⟨#[]⟩)
  unfold byN
  rw [h] at this ⊢
  simp only [Bool.and_eq_true, decide_eq_true_eq] at this
  exact ⟨by rw [this.1.1, this.1.2], this.2⟩

theorem both (s : ByteArray) : (byN s).1 = fnd NL 0 0 s ∧ (byN s).2 = decide (fnd NL 0 0 s > 0) := by
  by_cases h : ∃ n ∈ NL, (n.toList == s.toList) = true
  · obtain ⟨n, hn, he⟩ := h
    have e : s = n := by
      have := eq_of_beq he
      rw [ByteArray.toList_eq, ByteArray.toList_eq] at this
      exact (Go.WideShapes.bytes_inj this).symm
    subst e
    obtain ⟨i, hi⟩ := List.getElem?_of_mem hn
    have hlt : i < 38 := (List.getElem?_eq_some_iff.1 hi).1
    have e : NL.getD ((i : Int) + 1 - 1).toNat ⟨#[]⟩ = s := by
      have : ((i : Int) + 1 - 1).toNat = i := by omega
      rw [this]
      simp [List.getD, hi]
    obtain ⟨q1, q2⟩ := name_at (k := (i : Int) + 1) (by omega) (by omega)
    rw [e] at q1 q2
    rw [q1, q2]
    exact ⟨rfl, (decide_eq_true (by omega)).symm⟩
  · have h' : ∀ n ∈ NL, (n.toList == s.toList) = false := fun n hn => by
      cases q : n.toList == s.toList with
      | false => rfl
      | true => exact absurd ⟨n, hn, q⟩ h
    have e1 : byN s = (0, false) := by unfold byN; rw [none_bn h']
    rw [none_fnd h', e1]
    exact ⟨rfl, rfl⟩

theorem strNe_self (a : ByteArray) : strNe a a = false := by simp [strNe]

theorem rest_ok {op : Int} (hd : dom op = true) (s name : ByteArray) (hn : nm op = name) (hz : (byN name).2 = strNe name ⟨#[]⟩) (hy : (byN name).2 = true → (byN name).1 = op) : rest6 g6 (lim (S6 g6)) op s name = some (true, ()) := by
  have hl := loop6_end op s name NL (by decide) 38 0 0 (by decide)
  have e0 : ((0 : Nat) : Int) = 0 := rfl
  rw [e0] at hl
  unfold rest6
  simp only [g6, hd, onlyIf, cond_true, bne_self_eq_false, cond_false, hn, strNe_self, beq_self_eq_true, Bool.and_self, Bool.not_true]
  show (match lim (S6 g6) (op, s, NL, name, 0, 0, ()) with
    | none => none
    | some (.inl y) => ends6 g6 y
    | some (.inr _) => none) = some (true, ())
  rw [hl]
  simp only [List.drop_zero]
  unfold ends6
  obtain ⟨b1, b2⟩ := both s
  have h1 : g6.g27 s = byN s := rfl
  have h2 : g6.g27 name = byN name := rfl
  simp only [h1, h2, b1, b2, hz, beq_self_eq_true, cond_true]
  cases hq : strNe name ⟨#[]⟩ with
  | false => rfl
  | true =>
    rw [hq] at hz
    simp only [Bool.not_true, cond_false, hy hz, beq_self_eq_true]

theorem top6 (op : Int) (hd : dom op = true) (s : ByteArray) : evalF Try.prog tt (call6 g6) [loop6] 6 sTab [.val .bool] (op, s, ()) = some (true, ()) := by
  refine (e6_eq g6 op s).trans ?_
  have e1 : g6.D op = true := hd
  rw [e1]
  show (bif kn op then bif inRange (IntKind.u8.wrap (op - 1)) NL.length then rest6 g6 (lim (S6 g6)) op s (NL.getD ((IntKind.u8.wrap (op - 1)).toNat + 0) ⟨#[]⟩) else none
    else rest6 g6 (lim (S6 g6)) op s ⟨#[]⟩) = some (true, ())
  rcases dom_cases hd with ⟨e, c1, c2⟩ | ⟨e, c⟩
  · have hw : IntKind.u8.wrap (op - 1) = op - 1 := u8_small (by omega) (by omega)
    have hr : inRange (op - 1) NL.length = true := by
      have : NL.length = 38 := rfl
      simp [inRange, this]; omega
    rw [e, cond_true, hw, hr, cond_true]
    obtain ⟨q1, q2⟩ := name_at c1 c2
    refine rest_ok hd s _ (by unfold nm; rw [e]; rfl) ?_ ?_
    · rw [Nat.add_zero, q1]; exact (each38_at name_ne c1 c2).symm
    · rw [Nat.add_zero, q1]; exact fun _ => rfl
  · rw [e, cond_false]
    refine rest_ok hd s _ (by unfold nm; rw [e]; rfl) ?_ ?_
    · rw [no_empty]; kernel_rfl
    · rw [no_empty]; intro h; cases h
end Go.Pv
