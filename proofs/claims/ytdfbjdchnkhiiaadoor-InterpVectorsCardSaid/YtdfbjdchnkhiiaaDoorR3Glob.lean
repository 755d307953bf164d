/-
  The package's table of sine coefficients: where the row lays it, the block holds the seven numbers.
-/
import Derived.Test.YtdfbjdchnkhiiaaDoorRows
import Derived.ChangeShapes
import Derived.ChangeSame
import Derived.ChangeVars
import Derived.RowKit
import Derived.Test.YtdfbjdchnkhiiaaDoorPvReg
namespace Go.Pv
open Go.ChangeShapes Go.WideShapes Go.RowKit
open Go.Proofs
open Go.Proofs.YtdfbjdchnkhiiaaDoor

theorem sinesGlob : Tryd.prog.globalNamed "perilune/fixed.sines" = some 0 := by kernel_rfl
theorem sinesType : (Tryd.prog.globals[0]?).map (·.type) = some 134 := by kernel_rfl
theorem sinesCells : Tryd.prog.cellsOf 134 = 7 := by kernel_rfl
theorem sineCell : Tryd.prog.cellsOf 2 = 1 := by kernel_rfl
def sinesArr : Array Value := #[.int .i64 8, .int .i64 (-483), .int .i64 21534, .int .i64 (-628374), .int .i64 10696163, .int .i64 (-86699834), .int .i64 210828714]
theorem int_of_trod {H : Type} {enc : TypeId × Value → H} {P : Program} {w : World} {base : Nat} {sp : Nat → Bool} {held : Bool} {fuel : Nat} {t : TypeId} {k : IntKind} {c : Value} {y : DataW H × List MemPlace}
    (ht : P.underlying t = some (.int k)) (h : DataW.trod enc P w base sp held fuel t [c] = some y) : ∃ n, c = .int k n ∧ y = (.lit (.int k n), []) := by
  cases fuel with
  | zero => simp [DataW.trod] at h
  | succ fuel =>
    cases c <;> simp [DataW.trod, ht] at h
    rename_i k' n
    obtain ⟨⟨rfl, _⟩, rfl⟩ := h
    exact ⟨n, rfl, rfl⟩
theorem sines_laid {W : World} (h : laidMet Tryd.prog [("perilune/fixed.sines", Rows.laid_perilune_fixed_sines)] W) : W.var? Tryd.prog "perilune/fixed.sines" = some sinesArr := by
  obtain ⟨ps, ⟨g, t, cs, fuel, p, q, hg, ht, hvar, hd, _, _⟩, _⟩ := h
  obtain rfl := Option.some.inj (sinesGlob.symm.trans hg)
  obtain rfl := Option.some.inj (sinesType.symm.trans ht)
  rw [hvar]
  congr 1
  obtain ⟨l⟩ := cs
  cases fuel with
  | zero => simp [DataW.trod] at hd
  | succ fuel =>
    simp only [DataW.trod, Tryd.underlying134, sinesCells, sineCell] at hd
    split at hd
    · rename_i hl
      obtain ⟨c0, c1, c2, c3, c4, c5, c6, rfl⟩ : ∃ c0 c1 c2 c3 c4 c5 c6, l = [c0, c1, c2, c3, c4, c5, c6] := by
        match l, hl with
        | [a, b, c, d, e, f, g], _ => exact ⟨a, b, c, d, e, f, g, rfl⟩
      have e : List.range 7 = [0, 1, 2, 3, 4, 5, 6] := rfl
      rw [e] at hd
      simp only [Option.map_eq_some_iff, List.mapM_cons, List.mapM_nil, Option.bind_eq_bind, Option.bind_eq_some_iff, Option.pure_def, Option.some.injEq] at hd
      obtain ⟨xs, ⟨y0, h0, _, ⟨y1, h1, _, ⟨y2, h2, _, ⟨y3, h3, _, ⟨y4, h4, _, ⟨y5, h5, _, ⟨y6, h6, _, rfl, rfl⟩, rfl⟩, rfl⟩, rfl⟩, rfl⟩, rfl⟩, rfl⟩, hx⟩ := hd
      obtain ⟨n0, rfl, rfl⟩ := int_of_trod Tryd.underlying2 h0
      obtain ⟨n1, rfl, rfl⟩ := int_of_trod Tryd.underlying2 h1
      obtain ⟨n2, rfl, rfl⟩ := int_of_trod Tryd.underlying2 h2
      obtain ⟨n3, rfl, rfl⟩ := int_of_trod Tryd.underlying2 h3
      obtain ⟨n4, rfl, rfl⟩ := int_of_trod Tryd.underlying2 h4
      obtain ⟨n5, rfl, rfl⟩ := int_of_trod Tryd.underlying2 h5
      obtain ⟨n6, rfl, rfl⟩ := int_of_trod Tryd.underlying2 h6
      simp [Rows.laid_perilune_fixed_sines] at hx
      obtain ⟨⟨rfl, rfl, rfl, rfl, rfl, rfl, rfl⟩, _⟩ := hx
      rfl
    · cases hd
theorem gi {W : World} (h : laidMet Tryd.prog [("perilune/fixed.sines", Rows.laid_perilune_fixed_sines)] W) : ZOk (fun cb => cb < W.heap.size) W.heap := by
  refine ⟨fun _ h => h, fun g τ x hg => ?_⟩
  have hv := sines_laid h
  unfold World.var? at hv
  rw [sinesGlob] at hv
  simp only [Option.bind_some] at hv
  cases hc : W.heap[0]? with
  | none => rw [hc] at hv; cases hv
  | some o =>
    rw [hc] at hv
    cases o with
    | cells c T fz =>
      simp only [Option.some.injEq] at hv
      subst hv
      match g, hg with
      | 0, hg =>
        cases hg
        exact ⟨(Array.getElem?_eq_some_iff.1 hc).1, sinesArr, T, fz, hc, by decide, ⟨rfl, rfl, rfl, rfl, rfl, rfl, rfl⟩⟩
    | _ => cases hv
end Go.Pv
