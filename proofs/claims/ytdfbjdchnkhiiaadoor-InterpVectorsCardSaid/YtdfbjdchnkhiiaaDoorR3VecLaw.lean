/-
  The law InterpVectors returns true, whatever the vectors and the number.
-/
import Derived.Test.YtdfbjdchnkhiiaaDoorR3VecNum
import Derived.Test.YtdfbjdchnkhiiaaDoorR3ScalLaw
namespace Go.Pv
open Go.Proofs
set_option maxRecDepth 1000000
theorem fn78a : FnOK Tryd.prog 78 sII [.val tI] fun x => bif dQ0 x.1 x.2.1 then some (q0 x.1 x.2.1, ()) else none := fnSome fun x y h => by
  obtain ⟨p, q, ⟨⟩⟩ := x
  change (bif dQ0 p q then some (q0 p q, ()) else none) = some y at h
  cases hd : dQ0 p q with
  | false => rw [hd] at h; cases h
  | true =>
    rw [hd] at h
    simp only [dQ0, Bool.and_eq_true, decide_eq_true_eq] at hd
    refine ⟨callQ78 (fun _ _ => false) q0, fun R => callsE_ok tt_ok mixed names (fun f s hs => ?_) 20, [], ?_⟩
    · unfold specsQ78 at hs
      split at hs
      · cases hs; exact specD_ok (fun x y h => by cases h) flat_int (cntN 78 (by kernel_rfl))
      · cases hs
    · refine (e78_eq _ _ p q).trans ?_
      rw [decide_eq_false (by omega), cond_false, q0K_in hd.2]
      exact h
theorem fn78 : FnOK Tryd.prog 78 sII [.val tI] fun x => bif dQ x.1 x.2.1 then some (Qf x.1 x.2.1, ()) else none := fnSome fun x y h => by
  obtain ⟨p, q, ⟨⟩⟩ := x
  change (bif dQ p q then some (Qf p q, ()) else none) = some y at h
  cases hd : dQ p q with
  | false => rw [hd] at h; cases h
  | true =>
    rw [hd] at h
    simp only [dQ, Bool.and_eq_true, decide_eq_true_eq] at hd
    refine ⟨callQ78 dQ0 q0, fun R => callsE_ok tt_ok mixed names (fun f s hs => ?_) 20, [], ?_⟩
    · unfold specsQ78 at hs
      split at hs
      · cases hs; exact specD_ok fn78a flat_int (cntN 78 (by kernel_rfl))
      · cases hs
    · refine (e78_eq _ _ p q).trans ?_
      unfold Qf at h
      by_cases hp : p < 0
      · rw [decide_eq_true hp] at h ⊢
        have e : w64 (0 - p) = 0 - p := w64_small (by omega) (by omega)
        have hq : dQ0 (w64 (0 - p)) q = true := by
          have hp' : @LT.lt Int _ p 0 := hp
          rw [e]; simp only [dQ0, Bool.and_eq_true, decide_eq_true_eq]; omega
        show (bif dQ0 (w64 (0 - p)) q then some (w64 (0 - q0 (w64 (0 - p)) q), ()) else none) = some y
        rw [hq]
        exact h
      · rw [decide_eq_false hp] at h ⊢
        rw [cond_false, q0K_in hd.2]
        exact h
theorem callP_ok (R : Type) : CallsOK Tryd.prog (callP g0 R) := callsE_ok tt_ok mixed names (fun f s hs => by
  unfold specsP at hs
  split at hs
  · cases hs; exact specD_ok fn47 flat_int (cntN 47 (by kernel_rfl))
  · cases hs; exact specD_ok fn53 flatD (cntN 53 (by kernel_rfl))
  · cases hs; exact specD_ok fn78 flat_int (cntN 78 (by kernel_rfl))
  · cases hs) 20
def gA : GA := ⟨gN.add, gN.sub⟩
theorem callA_ok (R : Type) : CallsOK Tryd.prog (callA gA R) := callsE_ok tt_ok mixed names (fun f s hs => by
  unfold specsA at hs
  split at hs
  · cases hs; exact specD_ok fn21 flatDB (cntN 21 (by kernel_rfl))
  · cases hs; exact specD_ok fn22 flatDB (cntN 22 (by kernel_rfl))
  · cases hs) 20
def eachF (x y z : Db × Bool) : Vc × Bool := ((x.1, y.1, z.1), (x.2 || y.2) || z.2)
theorem each3_eq (x y z : Db × Bool) : each3 x y z = some ((eachF x y z).1, (eachF x y z).2, ()) := by
  obtain ⟨x, ox⟩ := x
  obtain ⟨y, oy⟩ := y
  obtain ⟨z, oz⟩ := z
  cases ox <;> cases oy <;> rfl
/-- a sum of products, rounded -/
def rnd (s : Int) : Int × Bool := clampF (Qf s 268435456)
theorem roundK_eq {α : Type} {s : Int} (h1 : -4611686018427387904 ≤ s) (h2 : s ≤ 4611686018427387904) (k : Int → Bool → Option α) : roundK g0 s k = k (rnd s).1 (rnd s).2 := by
  have : g0.dQ s 268435456 = true := by simp only [g0, dQ, Bool.and_eq_true, decide_eq_true_eq]; omega
  unfold roundK
  rw [this]
  exact clampK_eq _ k
def vs (p : Vc) : Int × Int × Int := (Vd p.1, Vd p.2.1, Vd p.2.2)
theorem sumDot_in (p a : Vc) : -4611686018427387904 ≤ sumDot (vs p) (vs a) ∧ sumDot (vs p) (vs a) ≤ 4611686018427387904 := by
  have h1 := mul_range (Vd_range p.1) (Vd_range a.1)
  have h2 := mul_range (Vd_range p.2.1) (Vd_range a.2.1)
  have h3 := mul_range (Vd_range p.2.2) (Vd_range a.2.2)
  simp only [sumDot, vs]
  rw [w64_small (k := Vd p.1 * Vd a.1) (by omega) (by omega), w64_small (k := Vd p.2.1 * Vd a.2.1) (by omega) (by omega), w64_small (k := Vd p.2.2 * Vd a.2.2) (by omega) (by omega)]
  rw [w64_small (k := Vd p.1 * Vd a.1 + Vd p.2.1 * Vd a.2.1) (by omega) (by omega), w64_small (by omega) (by omega)]
  omega
theorem minor_in (a b c d : Db) : -4611686018427387904 ≤ minor (Vd a) (Vd b) (Vd c) (Vd d) ∧ minor (Vd a) (Vd b) (Vd c) (Vd d) ≤ 4611686018427387904 := by
  have h1 := mul_range (Vd_range a) (Vd_range b)
  have h2 := mul_range (Vd_range c) (Vd_range d)
  simp only [minor]
  rw [w64_small (k := Vd a * Vd b) (by omega) (by omega), w64_small (k := Vd c * Vd d) (by omega) (by omega), w64_small (by omega) (by omega)]
  omega
def crossR (p a : Vc) : (Int × Bool) × (Int × Bool) × (Int × Bool) :=
  (rnd (minor (Vd p.2.1) (Vd a.2.2) (Vd p.2.2) (Vd a.2.1)), rnd (minor (Vd p.2.2) (Vd a.1) (Vd p.1) (Vd a.2.2)), rnd (minor (Vd p.1) (Vd a.2.1) (Vd p.2.1) (Vd a.1)))
def gW : GW := {
  canon := gN.canon
  add := fun p a => eachF (gN.add p.1 a.1) (gN.add p.2.1 a.2.1) (gN.add p.2.2 a.2.2)
  sub := fun p a => eachF (gN.sub p.1 a.1) (gN.sub p.2.1 a.2.1) (gN.sub p.2.2 a.2.2)
  cross := fun p a => ((Dd (crossR p a).1.1, Dd (crossR p a).2.1.1, Dd (crossR p a).2.2.1), ((crossR p a).1.2 || (crossR p a).2.1.2) || (crossR p a).2.2.2)
  dot := fun p a => (Dd (rnd (sumDot (vs p) (vs a))).1, (rnd (sumDot (vs p) (vs a))).2) }
theorem flatVB : ∀ s ∈ ([.agg tVec, .val .bool] : Sig), s.flat = true := by intro s hs; simp at hs; rcases hs with rfl | rfl <;> rfl
theorem fn25 : FnOK Tryd.prog 25 sVV [.agg tVec, .val .bool] fun x => bif true then some ((gW.add x.1 x.2.1).1, (gW.add x.1 x.2.1).2, ()) else none := fnSome fun x y h => by
  obtain ⟨p, a, ⟨⟩⟩ := x
  exact ⟨_, callA_ok, [], (e25_eq gA p a).trans ((each3_eq _ _ _).trans h)⟩
theorem fn26 : FnOK Tryd.prog 26 sVV [.agg tVec, .val .bool] fun x => bif true then some ((gW.sub x.1 x.2.1).1, (gW.sub x.1 x.2.1).2, ()) else none := fnSome fun x y h => by
  obtain ⟨p, a, ⟨⟩⟩ := x
  exact ⟨_, callA_ok, [], (e26_eq gA p a).trans ((each3_eq _ _ _).trans h)⟩
theorem fn28 : FnOK Tryd.prog 28 sVV [.agg tD, .val .bool] fun x => bif true then some ((gW.dot x.1 x.2.1).1, (gW.dot x.1 x.2.1).2, ()) else none := fnSome fun x y h => by
  obtain ⟨p, a, ⟨⟩⟩ := x
  exact ⟨_, callP_ok, [], (e28_eq g0 p a).trans ((roundK_eq (sumDot_in p a).1 (sumDot_in p a).2 _).trans h)⟩
theorem fn27 : FnOK Tryd.prog 27 sVV [.agg tVec, .val .bool] fun x => bif true then some ((gW.cross x.1 x.2.1).1, (gW.cross x.1 x.2.1).2, ()) else none := fnSome fun x y h => by
  obtain ⟨p, a, ⟨⟩⟩ := x
  refine ⟨_, callP_ok, [], (e27_eq g0 p a).trans ((roundK_eq (minor_in _ _ _ _).1 (minor_in _ _ _ _).2 _).trans ((roundK_eq (minor_in _ _ _ _).1 (minor_in _ _ _ _).2 _).trans ((roundK_eq (minor_in _ _ _ _).1 (minor_in _ _ _ _).2 _).trans h)))⟩
theorem specsW_ok (R : Type) : SpecOK Tryd.prog (specsW gW R) := by
  intro f s hs
  unfold specsW at hs
  split at hs
  · cases hs; exact specD_ok fn10N flat_bool (cntN 10 (by kernel_rfl))
  · cases hs; exact specE_ok fn33C flatDec cnt33
  · cases hs; exact specD_ok fn18 flat_form cnt18
  · cases hs; exact specD_ok fn30 flatD (cntN 30 (by kernel_rfl))
  · cases hs; exact specD_ok fn25 flatVB (cntN 25 (by kernel_rfl))
  · cases hs; exact specD_ok fn26 flatVB (cntN 26 (by kernel_rfl))
  · cases hs; exact specD_ok fn27 flatVB (cntN 27 (by kernel_rfl))
  · cases hs; exact specD_ok fn28 flatDB (cntN 28 (by kernel_rfl))
  · cases hs
theorem callVec_ok (R : Type) : CallsOK Tryd.prog (callVec gW R) := callsE_ok tt_ok mixed names (specsW_ok R) 30

/-! ### The law -/
theorem eqDb_self (a : Db) : eqDb a a = true := by simp [eqDb]
theorem eqVc_self (a : Vc) : eqVc a a = true := by simp [eqVc, eqDb_self]
theorem finV_self {b : Bool} (w : Vc) (o : Bool) (h : b = true → w.2.1.1 = 0) : finV b w w o w o = some (true, ()) := by
  unfold finV tailV
  rw [eqVc_self]
  cases b with
  | false => simp only [bne_self_eq_false, Bool.not_true, cond_false]
  | true => simp only [bne_self_eq_false, Bool.not_true, cond_false, cond_true, beq_self_eq_true, h rfl]
/-- the canonical form of some value -/
def Cn (x : Db) : Prop := ∃ v, x = Dd v ∧ -268435455 ≤ v ∧ v ≤ 268435455
theorem Cn.canon {x : Db} (h : Cn x) : gW.canon x = x := by
  obtain ⟨v, rfl, h1, h2⟩ := h
  show Dd (Vd (Dd v)) = Dd v
  rw [Vd_Dd h1 h2]
def Cn3 (x : Vc) : Prop := Cn x.1 ∧ Cn x.2.1 ∧ Cn x.2.2
theorem Cn3.canon {x : Vc} (h : Cn3 x) : map3 gW.canon x = x := by
  unfold map3; rw [h.1.canon, h.2.1.canon, h.2.2.canon]
theorem cn_clamp (v : Int) : Cn (Dd (clampF v).1) := ⟨_, rfl, (clampF_range v).1, (clampF_range v).2⟩
theorem vs_arg1 (p : Vc) : vs (argV1 gW p) = vs p := by
  unfold vs argV1 map3
  simp only [show ∀ d, Vd (gW.canon d) = Vd d from Vd_canon, Vd_md]
theorem vs_arg2 (p : Vc) : vs (argV2 gW p) = vs p := by
  unfold vs argV2 map3
  simp only [show ∀ d, Vd (gW.canon d) = Vd d from Vd_canon, Vd_md]
theorem vec_of {f : Vc → Vc → Vc × Bool} (hf : ∀ p q a b, vs p = vs q → vs a = vs b → f p a = f q b) (hr : ∀ p a, Cn3 (f p a).1) (p a : Vc) :
    vecV gW false (f (argV1 gW p) (argV2 gW a)) (f p a) = some (true, ()) := by
  rw [hf _ p _ a (vs_arg1 p) (vs_arg2 a)]
  unfold vecV
  rw [(hr p a).canon, (hr p a).canon]
  exact finV_self _ _ (by simp)
theorem dot_of (p a : Vc) : dotV gW true (gW.dot (argV1 gW p) (argV2 gW a)) (gW.dot p a) = some (true, ()) := by
  have e : gW.dot (argV1 gW p) (argV2 gW a) = gW.dot p a := by
    show (Dd (rnd (sumDot (vs (argV1 gW p)) (vs (argV2 gW a)))).1, (rnd (sumDot (vs (argV1 gW p)) (vs (argV2 gW a)))).2) = (Dd (rnd (sumDot (vs p) (vs a))).1, (rnd (sumDot (vs p) (vs a))).2)
    rw [vs_arg1, vs_arg2]
  rw [e]
  unfold dotV
  have hc : Cn (gW.dot p a).1 := cn_clamp _
  rw [hc.canon, hc.canon]
  exact finV_self _ _ (fun _ => rfl)
theorem vs1 {p q : Vc} (h : vs p = vs q) : Vd p.1 = Vd q.1 ∧ Vd p.2.1 = Vd q.2.1 ∧ Vd p.2.2 = Vd q.2.2 := by
  simp only [vs, Prod.mk.injEq] at h
  exact h
theorem vec_add (p a : Vc) : vecV gW false (gW.add (argV1 gW p) (argV2 gW a)) (gW.add p a) = some (true, ()) :=
  vec_of (fun p q a b h1 h2 => by
    obtain ⟨a1, a2, a3⟩ := vs1 h1
    obtain ⟨b1, b2, b3⟩ := vs1 h2
    simp only [gW, gN, a1, a2, a3, b1, b2, b3]) (fun p a => ⟨cn_clamp _, cn_clamp _, cn_clamp _⟩) p a
theorem vec_sub (p a : Vc) : vecV gW false (gW.sub (argV1 gW p) (argV2 gW a)) (gW.sub p a) = some (true, ()) :=
  vec_of (fun p q a b h1 h2 => by
    obtain ⟨a1, a2, a3⟩ := vs1 h1
    obtain ⟨b1, b2, b3⟩ := vs1 h2
    simp only [gW, gN, a1, a2, a3, b1, b2, b3]) (fun p a => ⟨cn_clamp _, cn_clamp _, cn_clamp _⟩) p a
theorem vec_cross (p a : Vc) : vecV gW false (gW.cross (argV1 gW p) (argV2 gW a)) (gW.cross p a) = some (true, ()) :=
  vec_of (fun p q a b h1 h2 => by
    obtain ⟨a1, a2, a3⟩ := vs1 h1
    obtain ⟨b1, b2, b3⟩ := vs1 h2
    simp only [gW, crossR, a1, a2, a3, b1, b2, b3]) (fun p a => ⟨cn_clamp _, cn_clamp _, cn_clamp _⟩) p a
theorem top6 (p a : Vc) {w : Int} (h : 0 ≤ w) : e6 gW p a w = some (true, ()) := by
  obtain ⟨⟨p0, p1⟩, ⟨p2, p3⟩, p4, p5⟩ := p
  obtain ⟨⟨a0, a1⟩, ⟨a2, a3⟩, a4, a5⟩ := a
  rw [e6_eq]
  rcases which4 h with h | h | h | h
  · have e1 : (w.tmod 4 == 1) = false := by rw [h]; rfl
    have e2 : (w.tmod 4 == 2) = false := by rw [h]; rfl
    have e3 : (w.tmod 4 == 3) = false := by rw [h]; rfl
    rw [e1, cond_false, e2, cond_false, e3, cond_false]
    exact vec_add ((p0, p1), (p2, p3), (p4, p5)) ((a0, a1), (a2, a3), (a4, a5))
  · have e1 : (w.tmod 4 == 1) = true := by rw [h]; rfl
    have e3 : (w.tmod 4 == 3) = false := by rw [h]; rfl
    rw [e1, cond_true, e3]
    exact vec_sub ((p0, p1), (p2, p3), (p4, p5)) ((a0, a1), (a2, a3), (a4, a5))
  · have e1 : (w.tmod 4 == 1) = false := by rw [h]; rfl
    have e2 : (w.tmod 4 == 2) = true := by rw [h]; rfl
    have e3 : (w.tmod 4 == 3) = false := by rw [h]; rfl
    rw [e1, cond_false, e2, cond_true, e3]
    exact vec_cross ((p0, p1), (p2, p3), (p4, p5)) ((a0, a1), (a2, a3), (a4, a5))
  · have e1 : (w.tmod 4 == 1) = false := by rw [h]; rfl
    have e2 : (w.tmod 4 == 2) = false := by rw [h]; rfl
    have e3 : (w.tmod 4 == 3) = true := by rw [h]; rfl
    rw [e1, cond_false, e2, cond_false, e3, cond_true]
    exact dot_of ((p0, p1), (p2, p3), (p4, p5)) ((a0, a1), (a2, a3), (a4, a5))
theorem cnt6 (fn : Func) (h : Tryd.prog.funcs[6]? = some fn) : fn.results.size = 1 := cntN 6 (by kernel_rfl) fn h
end Go.Pv
