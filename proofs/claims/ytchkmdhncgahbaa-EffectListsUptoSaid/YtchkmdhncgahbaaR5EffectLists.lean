/-
  For all lists and numbers (the input of bulk at most 1048576), the law EffectLists returns true, and its input reads as it did.
-/
import Derived.Test.YtchkmdhncgahbaaRows
import Derived.ProofKit
import Derived.WalkKit
import Derived.OpenShut
import Derived.JoinedCond
import Derived.Test.YtchkmdhncgahbaaL4
namespace Go.Proofs.Ytchkmdhncgahbaa.EffectListsF
open Go.ChangeShapes Go.WideShapes Go.ChangeAt Go.RowKit Go.Pv
theorem own : ownKnob Try.prog.godebug = none := by kernel_rfl
theorem laidOut : laidOutB Try.prog = true := by kernel_rfl
theorem lay0 : tyL Try.prog 6 3 = some tI := by kernel_rfl
theorem cel0 : Try.prog.cellsOf 3 = (tI : Ty).size := by kernel_rfl
theorem lay1 : tyL Try.prog 6 3 = some tI := by kernel_rfl
theorem cel1 : Try.prog.cellsOf 3 = (tI : Ty).size := by kernel_rfl
theorem words_of {l : List Int} (h : ∀ x ∈ l, TyOk tW x) : wdsOk l = true := List.all_eq_true.2 fun w hw => by
  have := bounds_u16 (h w hw)
  simp only [Bool.and_eq_true, decide_eq_true_eq]; exact this
theorem nums_of {l : List Int} (h : ∀ x ∈ l, TyOk tI x) : wfL l = true := List.all_eq_true.2 fun w hw => h w hw
theorem one_le {H : Type} (d : DataW H) : 1 ≤ Rows.uptoBulk d := by
  cases d with
  | lit l => cases l <;> simp [Rows.uptoBulk]
  | nil => simp [Rows.uptoBulk]
  | ptr d => simp [Rows.uptoBulk]
  | slice elems spare => simp [Rows.uptoBulk]
  | agg parts => simp [Rows.uptoBulk]
  | iface t d => simp [Rows.uptoBulk]
  | map entries => simp [Rows.uptoBulk]
  | held h => simp [Rows.uptoBulk]
theorem len_le {H : Type} (l : List (DataW H)) : l.length ≤ Rows.uptoBulkAll l := by
  induction l with
  | nil => simp [Rows.uptoBulkAll]
  | cons x r ih => have := one_le x; simp only [Rows.uptoBulkAll, List.length_cons]; omega
theorem part_le {H : Type} {d : DataW H} {l : List (DataW H)} (h : d ∈ l) : Rows.uptoBulk d ≤ Rows.uptoBulkAll l := by
  induction l with
  | nil => cases h
  | cons x r ih =>
    simp only [Rows.uptoBulkAll]
    cases List.mem_cons.1 h with
    | inl e => subst e; omega
    | inr e => have := ih e; omega
/-- a slice is no longer than its bulk -/
theorem slice_bulk {H : Type} {enc : TypeId × Value → H} {W : World} {sp : Nat → Bool} {b0 : Nat} {t e : TypeId} {v : Value} {d : DataW H} {ps : List MemPlace} (ht : Try.prog.underlying t = some (.slice e))
    (hd : DataW.Trod enc Try.prog W b0 sp true t v d ps) {τ : Ty} {l : List τ.den} {β : Nat → Option Go.Pv.Loc} {M : Mem} {Z : Nat → Prop} {h : Heap} (r : RV β M Z h (.fz τ l) v) : l.length ≤ Rows.uptoBulk d := by
  obtain ⟨fuel, hf⟩ := hd
  have hr : RD h Z (.slice τ) l [v] := by cases r with | fz _ _ _ hd => exact hd
  rcases hr with ⟨_, h1⟩ | ⟨cb, off, cap, c, T, fz, h1, _⟩
  · rw [h1]; simp
  · simp only [List.cons.injEq, and_true] at h1
    subst h1
    rcases DataW.trod_slice ht hf with ⟨h2, _⟩ | ⟨a, len, cap', elems, rest, m, _, h2, h3, _, _, _, h4, _⟩
    · simp [Value.cells] at h2
    · simp [Value.cells] at h2
      have hd2 : d = .slice (elems.map (·.1)) (rest.map (·.1)) := congrArg Prod.fst h3
      have := len_le (elems.map (·.1))
      rw [hd2]
      simp only [Rows.uptoBulk]
      simp only [List.length_map] at this
      omega

theorem reads : ∀ t ∈ Try.f4.params.toList, Try.prog.readableRec t = true ∧ t < Try.prog.types.size := by
  rw [Try.params4]
  intro t ht
  simp at ht
  rcases ht with rfl | rfl | rfl <;> exact ⟨by kernel_rfl, of_decide_eq_true (by kernel_rfl)⟩
set_option maxRecDepth 100000 in
theorem lifted (os : Os) (started : os.Started) (H : Type) (enc : TypeId × Value → H) (F : Stop.Interp) :
    ReturnsInHanded {} Try.checked os 4 .any ((Rows.OpenSpec.upto Rows.effectListsSpec).pre6 enc Try.prog Try.f4 Rows.effectListsUptoRow.domain false) (((Rows.OpenSpec.upto Rows.effectListsSpec).at F).post enc Try.prog Try.f4 false true false false) := by
  refine returnsInHanded_of_cond (C := Try.checked) (s := Rows.OpenSpec.upto Rows.effectListsSpec) (k := Rows.uptoSmall) rfl own started (by kernel_rfl) Try.func4
    (OpenSpec.witness (enc := enc) (C := Try.checked) (s := Rows.OpenSpec.upto Rows.effectListsSpec) (k := Rows.uptoSmall) rfl false ⟨#[], #[.slice none 0 0, .slice none 0 0, .int .i64 0], []⟩ 8 (by kernel_rfl) (by kernel_rfl) (by kernel_rfl)
      (x := ([.nil, .nil, .lit (.int .i64 0)], [], [])) (by kernel_rfl) rfl (by kernel_rfl)) ?_
  intro W base args ds gs before hval0 hW _ hk _
  have hval : ∀ (j : Nat) t v, Try.f4.params[j]? = some t → args[j]? = some v → Value.okWide Try.prog W .any base t v := hval0
  have hW' := hW
  obtain ⟨p, q, hA0, hV, rfl, hfz, hnd⟩ := hW
  have hA : DataW.TrodAll enc Try.prog W 0 (fun _ => true) true Try.f4.params.toList args.toList ds p := hA0
  have hA1 := hA
  rw [Try.params4] at hA hval
  obtain ⟨v0, vs0, d0, ds0, p0, q0, hargs, rfl, rfl, h0, r0⟩ := trodAll_cons hA
  obtain ⟨v1, vs1, d1, ds1, p1, q1, rfl, rfl, rfl, h1, r1⟩ := trodAll_cons r0
  obtain ⟨v2, vs2, d2, ds2, p2, q2, rfl, rfl, rfl, h2, r2⟩ := trodAll_cons r1
  obtain ⟨rfl, rfl, rfl⟩ := trodAll_nil r2
  obtain rfl : args = #[v0, v1, v2] := by cases args; simp_all
  obtain ⟨rfl, rfl⟩ := trodVars_none hV
  have hlt : ∀ x ∈ p0 ++ (p1 ++ (p2 ++ [])), x.block < W.heap.size := fun x hx => by simpa using hW'.lt x (by simpa using hx)
  obtain ⟨l0, x0, len0, rv0⟩ := slice_RV Try.underlying24 lay0 cel0 (hval 0 24 v0 rfl rfl) h0 (β := fun _ => none) (M := fun _ => .none)
  have up0 := slice_bulk (e := 3) Try.underlying24 h0 rv0
  obtain ⟨l1, x1, len1, rv1⟩ := slice_RV Try.underlying24 lay1 cel1 (hval 1 24 v1 rfl rfl) h1 (β := fun _ => none) (M := fun _ => .none)
  have up1 := slice_bulk (e := 3) Try.underlying24 h1 rv1
  obtain ⟨n2, w2, rv2⟩ := int_RV Try.underlying3 (hval 2 3 v2 rfl rfl) h2 (β := fun _ => none) (M := fun _ => .none) (Z := fun cb => cb < W.heap.size) (h := W.heap)
  have hcalls := calls_trueT tt_ok mixed names (specs_all on4) (lists_true (by
    have hb : Rows.uptoBulkAll ([d0, d1, d2] ++ []) ≤ 1048576 := of_decide_eq_true hk
    have := part_le (d := d0) (l := [d0, d1, d2] ++ []) (by simp)
    omega) (by
    have hb : Rows.uptoBulkAll ([d0, d1, d2] ++ []) ≤ 1048576 := of_decide_eq_true hk
    have := part_le (d := d1) (l := [d0, d1, d2] ++ []) (by simp)
    omega) (nums_of x0) (nums_of x1)) (cntN 4 (by kernel_rfl)) (β := fun _ => none) (Z := fun cb => cb < W.heap.size) (w := W) (cargs := [v0, v1, v2]) ⟨fun _ h => h, fun _ _ _ h => by cases h⟩ (RL.cons rv0 (RL.cons rv1 (RL.cons rv2 RL.nil)))
  refine hcalls.mono fun e W' ⟨he, hg, hh⟩ => ?_
  subst he
  exact ⟨_, rfl, post_same0 (pa := p0 ++ (p1 ++ (p2 ++ []))) (pv := []) hW' (fun _ _ _ => (trodAll_cons_mk (shut_bool Try.underlying4 _) trodAll_mk0)) (fun sp hsp => trodAll_stays laidOut hh reads hA1 hlt (fun y hy => hsp y (by simpa using hy))) (fun _ _ => rfl) rfl
    (hg.frame _)⟩

theorem over : Rows.effectListsUptoRow.holds Try.pinned (Rows.OpenSpec.upto Rows.effectListsSpec) :=
  OpenClaim.holds_of_cond 4 Try.f4 rfl rfl rfl rfl rfl rfl rfl ⟨rfl, rfl, rfl, rfl, rfl⟩ rfl rfl rfl rfl rfl (by kernel_rfl) Try.func4 (by kernel_rfl)
    (of_decide_eq_true (by kernel_rfl)) (by unfold Func.isWrapper; first | (rw [if_pos (by decide +kernel)]; kernel_rfl) | (rw [if_neg (by decide +kernel)]; exact ⟨rfl, rfl⟩))
    (fun os started H enc _ F => lifted os started H enc F)
end Go.Proofs.Ytchkmdhncgahbaa.EffectListsF
namespace Go.Proofs.Ytchkmdhncgahbaa

theorem effectListsUpto : Rows.EffectListsUptoSaid :=
  EffectListsF.over
#print axioms effectListsUpto
end Go.Proofs.Ytchkmdhncgahbaa
