/-
  Regions whose order is drawn: if no two operations that may change places touch the same, the order of the text serves all.
-/
import Derived.Test.YtdfbjdchnkhiiaaDoorPvReg
import Derived.Orders
namespace Go.Pv

/-- an operation with what it has done -/
structure Do where
  o : Oper
  ran : Bool
  eff : Eff

def Do.val (d : Do) : V := if d.ran then d.eff.val else .tup []
def Do.upd (d : Do) : List (Nat × Blk) := if d.ran then d.eff.upd else []
def Do.wr (d : Do) : List Nat := d.upd.map (·.1)
def Do.fp (d : Do) : List Nat := if d.ran then d.eff.fp else []

def putT (ρ : Nat → V) (d : Option Nat) (v : V) : Nat → V :=
  match d with
  | some t => setT ρ t v
  | none => ρ

/-- the frame after those operations (from number k on) that are done -/
def foldT (D : Nat → Bool) : Nat → List Do → (Nat → V) → (Nat → V)
  | _, [], ρ => ρ
  | k, d :: r, ρ => foldT D (k + 1) r (if D k then putT ρ d.o.dst d.val else ρ)

def foldM (D : Nat → Bool) : Nat → List Do → Mem → Mem
  | _, [], M => M
  | k, d :: r, M => foldM D (k + 1) r (if D k then M.upds d.upd else M)

theorem upds_not {b : Nat} : ∀ {u : List (Nat × Blk)} {M : Mem}, b ∉ u.map (·.1) → (M.upds u) b = M b
  | [], _, _ => rfl
  | (x, k) :: r, M, h => by
    simp only [List.map_cons, List.mem_cons, not_or] at h
    simp only [Mem.upds]
    rw [upds_not h.2, upd_ne _ _ h.1]

theorem upds_congr {b : Nat} : ∀ {u : List (Nat × Blk)} {M M' : Mem}, M b = M' b → (M.upds u) b = (M'.upds u) b
  | [], _, _, h => h
  | (x, k) :: r, M, M', h => by
    simp only [Mem.upds]
    refine upds_congr ?_
    by_cases e : b = x
    · subst e; rw [upd_same, upd_same]
    · rw [upd_ne _ _ e, upd_ne _ _ e]; exact h

theorem upds_in {b : Nat} : ∀ {u : List (Nat × Blk)} {M M' : Mem}, b ∈ u.map (·.1) → (M.upds u) b = (M'.upds u) b
  | [], _, _, h => by simp at h
  | (x, k) :: r, M, M', h => by
    simp only [Mem.upds]
    by_cases e : b ∈ r.map (·.1)
    · exact upds_in e
    · simp only [List.map_cons, List.mem_cons] at h
      rcases h with h | h
      · subst h; refine upds_congr ?_; rw [upd_same, upd_same]
      · exact absurd h e

theorem putT_ne {ρ : Nat → V} {d : Option Nat} {v : V} {t : Nat} (h : d ≠ some t) : putT ρ d v t = ρ t := by
  cases d with
  | none => rfl
  | some x => exact setT_ne _ _ fun e => h (by rw [e])

/-- two sets of done operations that part only in such as do not write t -/
theorem foldT_agree {t : Nat} {D D' : Nat → Bool} : ∀ (ds : List Do) (k : Nat) (ρ ρ' : Nat → V), ρ t = ρ' t →
    (∀ i d, ds[i]? = some d → D (k + i) ≠ D' (k + i) → d.o.dst ≠ some t) → foldT D k ds ρ t = foldT D' k ds ρ' t
  | [], _, _, _, h, _ => h
  | d :: r, k, ρ, ρ', h, hd => by
    simp only [foldT]
    refine foldT_agree r (k + 1) _ _ ?_ fun i d' hi hne => hd (i + 1) d' (by simpa using hi) (by rw [show k + (i + 1) = k + 1 + i from by omega]; exact hne)
    by_cases e : D k = D' k
    · rw [e]
      cases D' k
      · exact h
      · simp only [if_true]
        by_cases e2 : d.o.dst = some t
        · rw [e2]; simp [putT, setT_same]
        · rw [putT_ne e2, putT_ne e2]; exact h
    · have := hd 0 d (by simp) (by simpa using e)
      cases h1 : D k <;> cases h2 : D' k <;> simp only [if_true, Bool.false_eq_true, if_false]
      · exact h
      · rw [putT_ne this]; exact h
      · rw [putT_ne this]; exact h
      · rw [putT_ne this, putT_ne this]; exact h

theorem foldM_agree {b : Nat} {D D' : Nat → Bool} : ∀ (ds : List Do) (k : Nat) (M M' : Mem), M b = M' b →
    (∀ i d, ds[i]? = some d → D (k + i) ≠ D' (k + i) → b ∉ d.wr) → foldM D k ds M b = foldM D' k ds M' b
  | [], _, _, _, h, _ => h
  | d :: r, k, M, M', h, hd => by
    simp only [foldM]
    refine foldM_agree r (k + 1) _ _ ?_ fun i d' hi hne => hd (i + 1) d' (by simpa using hi) (by rw [show k + (i + 1) = k + 1 + i from by omega]; exact hne)
    by_cases e : D k = D' k
    · rw [e]
      cases D' k
      · exact h
      · simp only [if_true]; exact upds_congr h
    · have := hd 0 d (by simp) (by simpa using e)
      cases h1 : D k <;> cases h2 : D' k <;> simp only [if_true, Bool.false_eq_true, if_false]
      · exact h
      · rw [upds_not this]; exact h
      · rw [upds_not this]; exact h
      · rw [upds_not this, upds_not this]; exact h

/-- operation i done last -/
theorem foldT_last {D : Nat → Bool} : ∀ (ds : List Do) (k i : Nat) (d : Do) (ρ : Nat → V), ds[i]? = some d → D (k + i) = false →
    (∀ j d', ds[j]? = some d' → i < j → D (k + j) = true → ∀ t, d.o.dst = some t → d'.o.dst ≠ some t) →
    foldT (fun x => x == k + i || D x) k ds ρ = putT (foldT D k ds ρ) d.o.dst d.val := by
  intro ds k i d ρ hi hD hj
  funext t
  by_cases e : d.o.dst = some t
  · rw [e]
    simp only [putT, setT_same]
    -- behind i nobody writes t
    have key : ∀ (ds : List Do) (k i : Nat) (ρ : Nat → V), ds[i]? = some d → (∀ j d', ds[j]? = some d' → i < j → D (k + j) = true → d'.o.dst ≠ some t) →
        foldT (fun x => x == k + i || D x) k ds ρ t = d.val := by
      intro ds
      induction ds with
      | nil => intro k i ρ h; simp at h
      | cons d0 r ih =>
        intro k i ρ h hlt
        cases i with
        | zero =>
          simp at h; subst h
          simp only [foldT, Nat.add_zero, BEq.rfl, Bool.true_or, if_true]
          have h2 : foldT (fun x => x == k || D x) (k + 1) r (putT ρ d0.o.dst d0.val) t = foldT (fun _ => false) (k + 1) r (putT ρ d0.o.dst d0.val) t := by
            refine foldT_agree r (k + 1) _ _ rfl fun j d' hj' hne => ?_
            refine hlt (j + 1) d' (by simpa using hj') (by omega) ?_
            have : (k + 1 + j == k) = false := by simp; omega
            rw [this] at hne
            simp only [Bool.false_or, ne_eq, Bool.not_eq_false] at hne
            rw [show k + (j + 1) = k + 1 + j from by omega]; exact hne
          rw [h2]
          have h3 : ∀ (r : List Do) (k : Nat) (ρ : Nat → V), foldT (fun _ => false) k r ρ = ρ := by
            intro r; induction r with
            | nil => intro _ _; rfl
            | cons _ _ ih => intro k ρ; simp only [foldT, Bool.false_eq_true, if_false]; exact ih _ _
          rw [h3, e]; simp [putT, setT_same]
        | succ i =>
          simp at h
          simp only [foldT]
          rw [show k + (i + 1) = k + 1 + i from by omega]
          exact ih (k + 1) i _ h fun j d' hj' hl hDj => hlt (j + 1) d' (by simpa using hj') (by omega) (by rw [show k + (j + 1) = k + 1 + j from by omega]; exact hDj)
    exact key ds k i ρ hi fun j d' h1 h2 h3 => hj j d' h1 h2 h3 t e
  · rw [putT_ne e]
    refine foldT_agree ds k ρ ρ rfl fun j d' h1 hne => ?_
    by_cases hji : j = i
    · subst hji; rw [hi] at h1; cases h1; exact e
    · exfalso; apply hne
      have : (k + j == k + i) = false := by simp; omega
      simp [this]

theorem foldM_last {D : Nat → Bool} : ∀ (ds : List Do) (k i : Nat) (d : Do) (M : Mem), ds[i]? = some d → D (k + i) = false →
    (∀ j d', ds[j]? = some d' → i < j → D (k + j) = true → ∀ b, b ∈ d.wr → b ∉ d'.wr) →
    foldM (fun x => x == k + i || D x) k ds M = (foldM D k ds M).upds d.upd := by
  intro ds k i d M hi hD hj
  funext b
  by_cases e : b ∈ d.wr
  · have key : ∀ (ds : List Do) (k i : Nat) (M N : Mem), ds[i]? = some d → (∀ j d', ds[j]? = some d' → i < j → D (k + j) = true → b ∉ d'.wr) →
        foldM (fun x => x == k + i || D x) k ds M b = (N.upds d.upd) b := by
      intro ds
      induction ds with
      | nil => intro k i M N h; simp at h
      | cons d0 r ih =>
        intro k i M N h hlt
        cases i with
        | zero =>
          simp at h; subst h
          simp only [foldM, Nat.add_zero, BEq.rfl, Bool.true_or, if_true]
          have h2 : foldM (fun x => x == k || D x) (k + 1) r (M.upds d0.upd) b = foldM (fun _ => false) (k + 1) r (M.upds d0.upd) b := by
            refine foldM_agree r (k + 1) _ _ rfl fun j d' hj' hne => ?_
            refine hlt (j + 1) d' (by simpa using hj') (by omega) ?_
            have : (k + 1 + j == k) = false := by simp; omega
            rw [this] at hne
            simp only [Bool.false_or, ne_eq, Bool.not_eq_false] at hne
            rw [show k + (j + 1) = k + 1 + j from by omega]; exact hne
          rw [h2]
          have h3 : ∀ (r : List Do) (k : Nat) (M : Mem), foldM (fun _ => false) k r M = M := by
            intro r; induction r with
            | nil => intro _ _; rfl
            | cons _ _ ih => intro k ρ; simp only [foldM, Bool.false_eq_true, if_false]; exact ih _ _
          rw [h3]; exact upds_in e
        | succ i =>
          simp at h
          simp only [foldM]
          rw [show k + (i + 1) = k + 1 + i from by omega]
          exact ih (k + 1) i _ N h fun j d' hj' hl hDj => hlt (j + 1) d' (by simpa using hj') (by omega) (by rw [show k + (j + 1) = k + 1 + j from by omega]; exact hDj)
    exact key ds k i M _ hi fun j d' h1 h2 h3 => hj j d' h1 h2 h3 b e
  · rw [upds_not e]
    refine foldM_agree ds k M M rfl fun j d' h1 hne => ?_
    by_cases hji : j = i
    · subst hji; rw [hi] at h1; cases h1; exact e
    · exfalso; apply hne
      have : (k + j == k + i) = false := by simp; omega
      simp [this]

theorem hasN_iff {t : Nat} {l : List Nat} : hasN t l = true ↔ t ∈ l := by
  induction l with
  | nil => simp [hasN]
  | cons x r ih =>
    simp only [hasN, Bool.or_eq_true, ih, List.mem_cons]
    constructor
    · rintro (h | h)
      · exact .inl (Nat.eq_of_beq_eq_true h)
      · exact .inr h
    · rintro (h | h)
      · subst h; exact .inl (Nat.beq_refl t)
      · exact .inr h

theorem hasN_not {t : Nat} {l : List Nat} : hasN t l = false ↔ t ∉ l := by
  constructor
  · intro h hin; rw [hasN_iff.2 hin] at h; cases h
  · intro h
    cases hh : hasN t l with
    | false => rfl
    | true => exact absurd (hasN_iff.1 hh) h

theorem disj_iff {a b : List Nat} : disj a b = true ↔ ∀ x ∈ a, x ∉ b := by
  induction a with
  | nil => simp [disj]
  | cons x r ih =>
    rw [disj, Bool.and_eq_true, Bool.not_eq_true', ih, hasN_not]
    constructor
    · rintro ⟨h1, h2⟩ y hy
      rcases List.mem_cons.1 hy with e | e
      · rw [e]; exact h1
      · exact h2 y e
    · intro h
      exact ⟨h x (List.mem_cons_self ..), fun y hy => h y (List.mem_cons_of_mem _ hy)⟩

/-- two operations that may change places -/
structure Free (p q : Do) (rp rq : List Nat) : Prop where
  pq : ∀ t, p.o.dst = some t → t ∉ rq
  qp : ∀ t, q.o.dst = some t → t ∉ rp
  dd : ∀ t, p.o.dst = some t → q.o.dst ≠ some t
  wp : ∀ b, b ∈ p.wr → b ∉ q.fp
  wq : ∀ b, b ∈ q.wr → b ∉ p.fp

def Do.rc (all : List Oper) (d : Do) : Rc := ⟨d.o, readsOf all d.o, d.wr, d.fp⟩

theorem apart_free {all : List Oper} {p q : Do} (h : apartR (p.rc all) (q.rc all) = true) : Free p q (readsOf all p.o) (readsOf all q.o) := by
  simp only [apartR, Do.rc, Bool.and_eq_true, Bool.not_eq_true'] at h
  obtain ⟨⟨⟨⟨h1, h2⟩, h3⟩, h4⟩, h5⟩ := h
  refine ⟨fun t e hin => ?_, fun t e hin => ?_, fun t e e2 => ?_, disj_iff.1 h4, disj_iff.1 h5⟩
  · rw [e] at h1; simp only [dstIn] at h1; rw [hasN_iff.2 hin] at h1; cases h1
  · rw [e] at h2; simp only [dstIn] at h2; rw [hasN_iff.2 hin] at h2; cases h2
  · rw [e, e2] at h3; simp only [dstIn, Option.toList] at h3; rw [hasN_iff.2 (by simp)] at h3; cases h3

theorem indepWith_spec {A : List (List Nat)} {i : Nat} {p : Rc} : ∀ (k : Nat) (rs : List Rc), indepWith A i p k rs = true → ∀ j q, rs[j]? = some q → i ∈ A.getD (k + j) [] ∨ apartR p q = true
  | _, [], _, j, q, hq => by simp at hq
  | k, q0 :: rs, h, j, q, hq => by
    simp only [indepWith, Bool.and_eq_true, Bool.or_eq_true, hasN_iff] at h
    cases j with
    | zero => simp at hq; subst hq; exact h.1
    | succ j =>
      simp at hq
      have := indepWith_spec (k + 1) rs h.2 j q hq
      rw [show k + (j + 1) = k + 1 + j from by omega]; exact this

theorem indepFrom_spec {A : List (List Nat)} : ∀ (k : Nat) (rs : List Rc), indepFrom A k rs = true → ∀ i j p q, rs[i]? = some p → rs[j]? = some q → i < j → (k + i) ∈ A.getD (k + j) [] ∨ apartR p q = true
  | _, [], _, i, j, p, q, hp, _, _ => by simp at hp
  | k, r0 :: rs, h, i, j, p, q, hp, hq, hlt => by
    simp only [indepFrom, Bool.and_eq_true] at h
    cases j with
    | zero => omega
    | succ j =>
      simp at hq
      cases i with
      | zero =>
        simp at hp; subst hp
        have := indepWith_spec (k + 1) rs h.1 j q hq
        rw [show k + (j + 1) = k + 1 + j from by omega]; exact this
      | succ i =>
        simp at hp
        have := indepFrom_spec (k + 1) rs h.2 i j p q hp hq (by omega)
        rw [show k + (i + 1) = k + 1 + i from by omega, show k + (j + 1) = k + 1 + j from by omega]; exact this

/-- operation j waits for i, through others too -/
inductive TW (all : List Oper) : Nat → Nat → Prop
  | one {j i : Nat} {o : Oper} (h : all[j]? = some o) (hd : i ∈ dirs o) : TW all j i
  | more {j m i : Nat} {o : Oper} (h : all[j]? = some o) (hd : m ∈ dirs o) (ht : TW all m i) : TW all j i

theorem ancAdd_spec {acc : List (List Nat)} {i : Nat} : ∀ (l s : List Nat), i ∈ ancAdd acc l s → i ∈ s ∨ i ∈ l ∨ ∃ e ∈ l, i ∈ acc.getD e []
  | [], s, h => .inl h
  | e :: r, s, h => by
    simp only [ancAdd] at h
    rcases ancAdd_spec r _ h with h | h | ⟨e', h1, h2⟩
    · cases hb : hasN e s with
      | true => rw [hb] at h; exact .inl h
      | false =>
        rw [hb] at h
        simp only [cond_false, List.mem_cons, List.mem_append] at h
        rcases h with h | h | h
        · exact .inr (.inl (by simp [h]))
        · exact .inr (.inr ⟨e, by simp, h⟩)
        · exact .inl h
    · exact .inr (.inl (by simp [h]))
    · exact .inr (.inr ⟨e', by simp [h1], h2⟩)

theorem ancs_spec {all : List Oper} : ∀ (os : List Oper) (acc : List (List Nat)), all = all.take acc.length ++ os → (∀ j i, i ∈ acc.getD j [] → TW all j i) → ∀ j i, i ∈ (ancs os acc).getD j [] → TW all j i
  | [], acc, _, h, j, i, hi => h j i hi
  | o :: r, acc, he, h, j, i, hi => by
    simp only [ancs] at hi
    have hlen : acc.length ≤ all.length := by
      have := congrArg List.length he
      simp at this; omega
    have ho : all[acc.length]? = some o := by
      rw [he, List.getElem?_append_right (by simp; omega)]
      simp [Nat.min_eq_left hlen]
    refine ancs_spec r (acc ++ [ancAdd acc (dirs o) []]) ?_ ?_ j i hi
    · simp only [List.length_append, List.length_cons, List.length_nil]
      rw [List.take_add_one, ho]
      simpa using he
    · intro j i hi
      by_cases hj : j < acc.length
      · rw [List.getD_eq_getElem?_getD, List.getElem?_append_left hj, ← List.getD_eq_getElem?_getD] at hi; exact h j i hi
      · by_cases hj2 : j = acc.length
        · subst hj2
          rw [List.getD_eq_getElem?_getD, List.getElem?_append_right (Nat.le_refl _)] at hi
          simp at hi
          rcases ancAdd_spec _ _ hi with h1 | h1 | ⟨e, h1, h2⟩
          · cases h1
          · exact .one ho h1
          · exact .more ho h1 (h e i h2)
        · rw [List.getD_eq_getElem?_getD, List.getElem?_eq_none (by simp; omega)] at hi
          simp at hi

theorem edgesOk_spec : ∀ (k : Nat) (os : List Oper), edgesOk k os = true → ∀ j o, os[j]? = some o → ∀ e ∈ o.after, Region.binds .any e = true → e.on < k + j
  | _, [], _, j, o, hj, _, _, _ => by simp at hj
  | k, o0 :: os, h, j, o, hj, e, he, hb => by
    simp only [edgesOk, Bool.and_eq_true, List.all_eq_true, Bool.or_eq_true, Bool.not_eq_true'] at h
    cases j with
    | zero =>
      simp at hj; subst hj
      rcases h.1 e (by simpa using he) with h1 | h1
      · rw [hb] at h1; cases h1
      · exact Nat.le_of_ble_eq_true h1
    | succ j =>
      simp at hj
      have := edgesOk_spec (k + 1) os h.2 j o hj e he hb
      omega

theorem mem_dirs {o : Oper} {i : Nat} : i ∈ dirs o ↔ ∃ e ∈ o.after, Region.binds .any e = true ∧ e.on = i := by
  simp only [dirs, List.mem_map, List.mem_filter, Array.mem_toList_iff]
  constructor
  · rintro ⟨e, ⟨h1, h2⟩, h3⟩; exact ⟨e, h1, h2, h3⟩
  · rintro ⟨e, h1, h2, h3⟩; exact ⟨e, ⟨h1, h2⟩, h3⟩

/-! ### The order of the text, taken apart -/
def runT : List Do → (Nat → V) → (Nat → V)
  | [], ρ => ρ
  | d :: r, ρ => runT r (putT ρ d.o.dst d.val)

def runM : List Do → Mem → Mem
  | [], M => M
  | d :: r, M => runM r (M.upds d.upd)

theorem foldT_all {D : Nat → Bool} : ∀ (ds : List Do) (k : Nat) (ρ : Nat → V), (∀ i, i < ds.length → D (k + i) = true) → foldT D k ds ρ = runT ds ρ
  | [], _, _, _ => rfl
  | d :: r, k, ρ, h => by
    have := h 0 (by simp)
    simp only [Nat.add_zero] at this
    simp only [foldT, runT, this, if_true]
    exact foldT_all r (k + 1) _ fun i hi => by rw [show k + 1 + i = k + (i + 1) from by omega]; exact h (i + 1) (by simpa using hi)

theorem foldM_all {D : Nat → Bool} : ∀ (ds : List Do) (k : Nat) (M : Mem), (∀ i, i < ds.length → D (k + i) = true) → foldM D k ds M = runM ds M
  | [], _, _, _ => rfl
  | d :: r, k, M, h => by
    have := h 0 (by simp)
    simp only [Nat.add_zero] at this
    simp only [foldM, runM, this, if_true]
    exact foldM_all r (k + 1) _ fun i hi => by rw [show k + 1 + i = k + (i + 1) from by omega]; exact h (i + 1) (by simpa using hi)

def gOk (all : List Oper) (ρ : Nat → V) (g : Option (Nat × Bool)) (ran : Bool) : Prop :=
  ((g = none ∧ ran = true) ∨ ∃ j want t b, g = some (j, want) ∧ dstOf all j = some t ∧ ρ t = .bool b ∧ ran = (b == want)) ∨ ∃ j want t, g = some (j, want) ∧ dstOf all j = some t ∧ ρ t = .tup [] ∧ ran = false

def DoOK (P : Program) (nt : Nat) (all : List Oper) (ρ : Nat → V) (M : Mem) (d : Do) : Prop :=
  gOk all ρ d.o.guard d.ran ∧ (d.ran = true → OpOK P d.o (evO ρ) M d.eff) ∧ ∀ t, d.o.dst = some t → t < nt

def Seq (P : Program) (nt : Nat) (all : List Oper) : List Do → (Nat → V) → Mem → Prop
  | [], _, _ => True
  | d :: r, ρ, M => DoOK P nt all ρ M d ∧ Seq P nt all r (putT ρ d.o.dst d.val) (M.upds d.upd)

theorem Seq.at {P : Program} {nt : Nat} {all : List Oper} : ∀ (ds : List Do) (k : Nat) (ρ : Nat → V) (M : Mem), Seq P nt all ds ρ M → ∀ i d, ds[i]? = some d →
    DoOK P nt all (foldT (fun x => decide (x < k + i)) k ds ρ) (foldM (fun x => decide (x < k + i)) k ds M) d
  | [], _, _, _, _, i, d, h => by simp at h
  | d0 :: r, k, ρ, M, hs, i, d, h => by
    cases i with
    | zero =>
      simp at h; subst h
      have e1 : ∀ (r : List Do) (k' : Nat) (ρ : Nat → V), k ≤ k' → foldT (fun x => decide (x < k)) k' r ρ = ρ := by
        intro r; induction r with
        | nil => intro _ _ _; rfl
        | cons _ _ ih => intro k' ρ hk; simp only [foldT, show ¬ k' < k from by omega, decide_false, Bool.false_eq_true, if_false]; exact ih _ _ (by omega)
      have e2 : ∀ (r : List Do) (k' : Nat) (M : Mem), k ≤ k' → foldM (fun x => decide (x < k)) k' r M = M := by
        intro r; induction r with
        | nil => intro _ _ _; rfl
        | cons _ _ ih => intro k' ρ hk; simp only [foldM, show ¬ k' < k from by omega, decide_false, Bool.false_eq_true, if_false]; exact ih _ _ (by omega)
      rw [Nat.add_zero, e1 _ _ _ (Nat.le_refl k), e2 _ _ _ (Nat.le_refl k)]
      exact hs.1
    | succ i =>
      simp at h
      simp only [foldT, foldM]
      have : decide (k < k + (i + 1)) = true := by simp
      simp only [this, if_true]
      rw [show k + (i + 1) = k + 1 + i from by omega]
      exact Seq.at r (k + 1) _ _ hs.2 i d h

section
variable {P : Program} {T : TypeId → TT} {R : Type} {nt : Nat}

theorem setT_know {ρ : Nat → V} {t : Nat} {x : V} (h : ρ t = x) : setT ρ t x = ρ := by
  funext s
  by_cases e : s = t
  · subst e; rw [setT_same, h]
  · rw [setT_ne _ _ e]

theorem opsD_seq (hT : TOK P T) {callE : FuncId → List V → Mem → Nat → (Eff → Option R) → Option R} (hcall : CallsOK P callE) {all : List Oper} {c : (Nat → V) → Mem → Nat → Option R} {r : R} :
    ∀ (ops : List Oper) (id : Nat) (ρ : Nat → V) (M : Mem) (rs : List Rc), opsD T callE nt all ops id ρ M rs c = some r →
      ∃ ds id', Seq P nt all ds ρ M ∧ ds.map (·.o) = ops ∧ c (runT ds ρ) (runM ds M) id' = some r ∧ indepFrom (ancs all []) 0 (rs ++ ds.map (Do.rc all)) = true ∧ edgesOk 0 all = true := by
  intro ops
  induction ops with
  | nil =>
    intro id ρ M rs h
    simp only [opsD] at h
    cases hb : indepFrom (ancs all []) 0 rs && edgesOk 0 all with
    | false => rw [hb] at h; cases h
    | true =>
      rw [hb] at h
      rw [Bool.and_eq_true] at hb
      exact ⟨[], id, trivial, rfl, h, by simpa using hb.1, hb.2⟩
  | cons o rest ih =>
    intro id ρ M rs h
    have yes : gOk all ρ o.guard true → (opE T callE id o.op (evO ρ) M fun e => e.val.force fun v => forceU M e.upd fun M => dstE nt ρ o.dst v fun ρ => forceN (id + 1) fun id => opsD T callE nt all rest id ρ M (rs ++ [⟨o, readsOf all o, e.upd.map (·.1), e.fp⟩]) c) = some r →
        ∃ ds id', Seq P nt all ds ρ M ∧ ds.map (·.o) = o :: rest ∧ c (runT ds ρ) (runM ds M) id' = some r ∧ indepFrom (ancs all []) 0 (rs ++ ds.map (Do.rc all)) = true ∧ edgesOk 0 all = true := by
      intro hg h
      obtain ⟨eff, hop, hc⟩ := opE_ok hT hcall id _ _ h
      simp only [force_eq, forceU_eq, forceN_eq] at hc
      have fin : ∀ (hd : ∀ t, o.dst = some t → t < nt), opsD T callE nt all rest (id + 1) (putT ρ o.dst eff.val) (M.upds eff.upd) (rs ++ [⟨o, readsOf all o, eff.upd.map (·.1), eff.fp⟩]) c = some r →
          ∃ ds id', Seq P nt all ds ρ M ∧ ds.map (·.o) = o :: rest ∧ c (runT ds ρ) (runM ds M) id' = some r ∧ indepFrom (ancs all []) 0 (rs ++ ds.map (Do.rc all)) = true ∧ edgesOk 0 all = true := fun hd hk => by
        obtain ⟨ds, id', h1, h2, h3, h4, h5⟩ := ih _ _ _ _ hk
        refine ⟨⟨o, true, eff⟩ :: ds, id', ⟨⟨hg, fun _ => hop, hd⟩, h1⟩, by simp [h2], h3, ?_, h5⟩
        simpa [Do.rc, Do.wr, Do.upd, Do.fp] using h4
      rcases dstE_spec hc with ⟨hd, hk⟩ | ⟨t, hd, ht, hk⟩
      · exact fin (fun t h => by rw [hd] at h; cases h) (by rw [hd]; exact hk)
      · exact fin (fun t' h => by rw [hd] at h; cases h; exact ht) (by rw [hd]; exact hk)
    have no : gOk all ρ o.guard false → (dstE nt ρ o.dst (.tup []) fun ρ => forceN (id + 1) fun id => opsD T callE nt all rest id ρ M (rs ++ [⟨o, readsOf all o, [], []⟩]) c) = some r →
        ∃ ds id', Seq P nt all ds ρ M ∧ ds.map (·.o) = o :: rest ∧ c (runT ds ρ) (runM ds M) id' = some r ∧ indepFrom (ancs all []) 0 (rs ++ ds.map (Do.rc all)) = true ∧ edgesOk 0 all = true := by
      intro hg' hn
      simp only [forceN_eq] at hn
      have fin : ∀ (hd : ∀ t, o.dst = some t → t < nt), opsD T callE nt all rest (id + 1) (putT ρ o.dst (.tup [])) M (rs ++ [⟨o, readsOf all o, [], []⟩]) c = some r →
          ∃ ds id', Seq P nt all ds ρ M ∧ ds.map (·.o) = o :: rest ∧ c (runT ds ρ) (runM ds M) id' = some r ∧ indepFrom (ancs all []) 0 (rs ++ ds.map (Do.rc all)) = true ∧ edgesOk 0 all = true := fun hd hk => by
        obtain ⟨ds, id', h1, h2, h3, h4, h5⟩ := ih _ _ _ _ hk
        refine ⟨⟨o, false, ⟨.dead, [], []⟩⟩ :: ds, id', ⟨⟨hg', fun h => by simp at h, hd⟩, h1⟩, by simp [h2], h3, ?_, h5⟩
        simpa [Do.rc, Do.wr, Do.upd, Do.fp] using h4
      rcases dstE_spec hn with ⟨hd, hk⟩ | ⟨t, hd, ht, hk⟩
      · exact fin (fun t h => by rw [hd] at h; cases h) (by rw [hd]; exact hk)
      · exact fin (fun t' h => by rw [hd] at h; cases h; exact ht) (by rw [hd]; exact hk)
    rcases guardE_spec (by simpa only [opsD] using h) with (⟨hg, hy⟩ | ⟨j, want, t, b, hg, hd, ht, hy | hn⟩) | ⟨j, want, t, hg, hd, ht, hn⟩
    · exact yes (.inl (.inl ⟨hg, rfl⟩)) hy
    · obtain ⟨rfl, hy⟩ := hy
      rw [setT_know ht] at hy
      exact yes (.inl (.inr ⟨j, b, t, b, hg, hd, ht, by simp⟩)) hy
    · obtain ⟨hne, hn⟩ := hn
      rw [setT_know ht] at hn
      exact no (.inl (.inr ⟨j, want, t, b, hg, hd, ht, by simpa using hne⟩)) hn
    · exact no (.inr ⟨j, want, t, hg, hd, ht, rfl⟩) hn

theorem mem_reads {all : List Oper} {o : Oper} {t : Nat} (h : Operand.tmp t ∈ o.op.operands.toList) : t ∈ readsOf all o :=
  List.mem_append_left _ (List.mem_filterMap.2 ⟨_, h, rfl⟩)

/-- what is settled of a region -/
structure Settled (P : Program) (nt : Nat) (ops : Array Oper) (ds : List Do) (ρ : Nat → V) (M : Mem) : Prop where
  seq : Seq P nt ops.toList ds ρ M
  os : ds.map (·.o) = ops.toList
  ind : indepFrom (ancs ops.toList []) 0 (ds.map (Do.rc ops.toList)) = true
  edge : edgesOk 0 ops.toList = true

theorem Settled.get {ops : Array Oper} {ds : List Do} {ρ : Nat → V} {M : Mem} (s : Settled P nt ops ds ρ M) {i : Nat} {o : Oper} (h : ops[i]? = some o) : ∃ d, ds[i]? = some d ∧ d.o = o := by
  have : (ds.map (·.o))[i]? = some o := by rw [s.os]; simpa using h
  rw [List.getElem?_map] at this
  cases hd : ds[i]? with
  | none => rw [hd] at this; cases this
  | some d => rw [hd] at this; exact ⟨d, rfl, by simpa using this⟩

theorem Settled.len {ops : Array Oper} {ds : List Do} {ρ : Nat → V} {M : Mem} (s : Settled P nt ops ds ρ M) : ds.length = ops.size := by
  have := congrArg List.length s.os
  simpa using this

theorem Settled.wr_fp {ops : Array Oper} {ds : List Do} {ρ : Nat → V} {M : Mem} (s : Settled P nt ops ds ρ M) {i : Nat} {d : Do} (h : ds[i]? = some d) : ∀ b, b ∈ d.wr → b ∈ d.fp := by
  obtain ⟨_, h2, _⟩ := Seq.at ds 0 ρ M s.seq i d h
  intro b hb
  cases hr : d.ran with
  | false => simp [Do.wr, Do.upd, hr] at hb
  | true =>
    simp only [Do.wr, Do.upd, Do.fp, hr, if_true] at hb ⊢
    exact (h2 hr).1 b hb

/-- two that do not wait for each other -/
theorem Settled.free {ops : Array Oper} {ds : List Do} {ρ : Nat → V} {M : Mem} (s : Settled P nt ops ds ρ M) {i j : Nat} {di dj : Do} (hi : ds[i]? = some di) (hj : ds[j]? = some dj)
    (hlt : i < j) (hw : ¬ TW ops.toList j i) : Free di dj (readsOf ops.toList di.o) (readsOf ops.toList dj.o) := by
  have := indepFrom_spec 0 _ s.ind i j (di.rc ops.toList) (dj.rc ops.toList) (by simp [hi]) (by simp [hj]) hlt
  rw [Nat.zero_add, Nat.zero_add] at this
  rcases this with h | h
  · exact absurd (ancs_spec ops.toList [] (by simp) (fun j i hi => by simp at hi) j i h) hw
  · exact apart_free h

theorem any_order {ops : Array Oper} {ds : List Do} {ρ : Nat → V} {M : Mem} (s : Settled P nt ops ds ρ M) {Q : Exit → Act → World → Prop} :
    ∀ (fuel : Nat) (U : List Nat) (listed : Array Bool) (β : Nat → Option Loc) (Z : Nat → Prop) (a : Act) (w : World),
      listed.size = ops.size → U.length ≤ fuel → (∀ x, x < ops.size → listed.getD x false = false → x ∈ U) →
      (∀ i d, ds[i]? = some d → listed.getD i false = true → ∀ j ∈ dirs d.o, listed.getD j false = true) →
      Rel β (foldM (fun x => listed.getD x false) 0 ds M) Z nt (foldT (fun x => listed.getD x false) 0 ds ρ) a w →
      (∀ β' Z' a' w', Rel β' (runM ds M) Z' nt (runT ds ρ) a' w' → EvW β (foldM (fun x => listed.getD x false) 0 ds M) Z w β' (runM ds M) Z' w' → a'.defers = a.defers → Q .normal a' w') →
      wpAny P .any ops Q fuel listed a w := by
  intro fuel
  -- nothing is ready: all is done
  have done : ∀ (listed : Array Bool) (β : Nat → Option Loc) (Z : Nat → Prop) (a : Act) (w : World), (∀ x, x < ops.size → listed.getD x false = true) →
      Rel β (foldM (fun x => listed.getD x false) 0 ds M) Z nt (foldT (fun x => listed.getD x false) 0 ds ρ) a w →
      (∀ β' Z' a' w', Rel β' (runM ds M) Z' nt (runT ds ρ) a' w' → EvW β (foldM (fun x => listed.getD x false) 0 ds M) Z w β' (runM ds M) Z' w' → a'.defers = a.defers → Q .normal a' w') →
      Q .normal a w := by
    intro listed β Z a w hall hr hQ
    have e1 := foldT_all (D := fun x => listed.getD x false) ds 0 ρ fun i hi => by rw [Nat.zero_add]; exact hall i (by rw [← s.len]; exact hi)
    have e2 := foldM_all (D := fun x => listed.getD x false) ds 0 M fun i hi => by rw [Nat.zero_add]; exact hall i (by rw [← s.len]; exact hi)
    rw [e2] at hQ
    rw [e1, e2] at hr
    exact hQ β Z a w hr (EvW.refl _ _ _ _) rfl
  have conv : ∀ (listed : Array Bool) (x : Nat), listed.size = ops.size → x < ops.size → listed.getD x true = listed.getD x false := by
    intro listed x hs hx
    have : x < listed.size := by rw [hs]; exact hx
    simp [this]
  -- the least that is not done is ready
  have prog : ∀ (listed : Array Bool), listed.size = ops.size → Region.ready .any ops listed = [] → ∀ x, x < ops.size → listed.getD x false = true := by
    intro listed hs hr x
    induction x using Nat.strongRecOn with
    | ind x ih =>
      intro hx
      cases hh : listed.getD x false with
      | true => rfl
      | false =>
        exfalso
        have ho : ops[x]? = some ops[x] := by simp [hx]
        have : x ∈ Region.ready .any ops listed := by
          rw [mem_ready]
          refine ⟨by rw [conv listed x hs hx]; exact hh, ops[x], ho, fun e he hb => ?_⟩
          have hlt := edgesOk_spec 0 _ s.edge x ops[x] (by simp [hx]) e he hb
          rw [Nat.zero_add] at hlt
          exact ih e.on hlt (by omega)
        rw [hr] at this; cases this
  induction fuel with
  | zero =>
    intro U listed β Z a w hs hU hun hdc hr hQ
    have hU0 : U = [] := List.eq_nil_of_length_eq_zero (by omega)
    have hall : ∀ x, x < ops.size → listed.getD x false = true := fun x hx => by
      cases hh : listed.getD x false with
      | true => rfl
      | false => have := hun x hx hh; rw [hU0] at this; cases this
    refine ⟨?_, done listed β Z a w hall hr hQ⟩
    apply List.eq_nil_iff_forall_not_mem.2
    intro x hx
    obtain ⟨h0, o, ho, _⟩ := mem_ready.1 hx
    have hlt : x < ops.size := (Array.getElem?_eq_some_iff.1 ho).1
    rw [conv listed x hs hlt, hall x hlt] at h0; cases h0
  | succ fuel ih =>
    intro U listed β Z a w hs hU hun hdc hr hQ
    refine ⟨fun hnil => done listed β Z a w (prog listed hs hnil) hr hQ, fun i hi => ?_⟩
    obtain ⟨h0, o, ho, hedges⟩ := mem_ready.1 hi
    have hlt : i < ops.size := (Array.getElem?_eq_some_iff.1 ho).1
    obtain ⟨d, hd, rfl⟩ := s.get ho
    have hDi : listed.getD i false = false := by rw [← conv listed i hs hlt]; exact h0
    have hwt : ∀ j ∈ dirs d.o, listed.getD j false = true := fun j hj => by
      obtain ⟨e, he, hb, rfl⟩ := mem_dirs.1 hj
      exact hedges e he hb
    have htw : ∀ j i, TW ops.toList j i → listed.getD j false = true → listed.getD i false = true := fun j i h => by
      induction h with
      | one h hd =>
        intro hl
        obtain ⟨d', h1, rfl⟩ := s.get (by simpa using h)
        exact hdc _ d' h1 hl _ hd
      | more h hd _ ih =>
        intro hl
        obtain ⟨d', h1, rfl⟩ := s.get (by simpa using h)
        exact ih (hdc _ d' h1 hl _ hd)
    have htwi : ∀ j, TW ops.toList i j → listed.getD j false = true := fun j h => by
      have ho' : ops.toList[i]? = some d.o := by simpa using ho
      cases h with
      | one h hd =>
        rw [ho'] at h; cases h
        exact hwt _ hd
      | more h hd ht =>
        rw [ho'] at h; cases h
        exact htw _ _ ht (hwt _ hd)
    -- it may change places with all that part its state from the text's
    have hfree1 : ∀ j dj, ds[j]? = some dj → i < j → listed.getD j false = true → Free d dj (readsOf ops.toList d.o) (readsOf ops.toList dj.o) := fun j dj hj hij hDj =>
      s.free hd hj hij (fun h => by have := htw j i h hDj; rw [hDi] at this; cases this)
    have hfree2 : ∀ j dj, ds[j]? = some dj → j < i → listed.getD j false = false → Free dj d (readsOf ops.toList dj.o) (readsOf ops.toList d.o) := fun j dj hj hij hDj =>
      s.free hj hd hij (fun h => by have := htwi j h; rw [hDj] at this; cases this)
    obtain ⟨hg, hop, hdst⟩ := Seq.at ds 0 ρ M s.seq i d hd
    rw [Nat.zero_add] at hg hop
    have hT : ∀ t ∈ readsOf ops.toList d.o, foldT (fun x => listed.getD x false) 0 ds ρ t = foldT (fun x => decide (x < i)) 0 ds ρ t := fun t ht =>
      foldT_agree ds 0 ρ ρ rfl fun j dj hj hne e => by
        rw [Nat.zero_add] at hne
        rcases Nat.lt_trichotomy j i with hl | hl | hl
        · have : decide (j < i) = true := by simpa using hl
          rw [this] at hne
          exact (hfree2 j dj hj hl (by simpa using hne)).pq t e ht
        · subst hl; simp only [Nat.lt_irrefl, decide_false] at hne; exact hne hDi
        · have : decide (j < i) = false := by simp; omega
          rw [this] at hne
          exact (hfree1 j dj hj hl (by simpa using hne)).qp t e ht
    have hMm : d.ran = true → ∀ b ∈ d.eff.fp, foldM (fun x => listed.getD x false) 0 ds M b = foldM (fun x => decide (x < i)) 0 ds M b := fun hran b hb =>
      foldM_agree ds 0 M M rfl fun j dj hj hne e => by
        have hb' : b ∈ d.fp := by simp [Do.fp, hran, hb]
        rw [Nat.zero_add] at hne
        rcases Nat.lt_trichotomy j i with hl | hl | hl
        · have : decide (j < i) = true := by simpa using hl
          rw [this] at hne
          exact (hfree2 j dj hj hl (by simpa using hne)).wp b e hb'
        · subst hl; simp only [Nat.lt_irrefl, decide_false] at hne; exact hne hDi
        · have : decide (j < i) = false := by simp; omega
          rw [this] at hne
          exact (hfree1 j dj hj hl (by simpa using hne)).wq b e hb'
    -- the state afterwards
    have hset : ∀ x, (listed.setIfInBounds i true).getD x false = (x == 0 + i || listed.getD x false) := fun x => by
      rw [Nat.zero_add]
      by_cases e : x = i
      · subst e; simp [hs, hlt]
      · rw [getD_set_ne false (Ne.symm e)]
        have : (x == i) = false := by simpa using e
        rw [this, Bool.false_or]
    have hD' : (fun x => (listed.setIfInBounds i true).getD x false) = (fun x => x == 0 + i || listed.getD x false) := funext hset
    have eT := foldT_last (D := fun x => listed.getD x false) ds 0 i d ρ hd (by rw [Nat.zero_add]; exact hDi) fun j dj hj hl hDj t e => (hfree1 j dj hj hl (by rw [Nat.zero_add] at hDj; exact hDj)).dd t e
    have eM := foldM_last (D := fun x => listed.getD x false) ds 0 i d M hd (by rw [Nat.zero_add]; exact hDi) fun j dj hj hl hDj b hb hb2 =>
      (hfree1 j dj hj hl (by rw [Nat.zero_add] at hDj; exact hDj)).wp b hb (s.wr_fp hj b hb2)
    have next : ∀ (β' : Nat → Option Loc) (Z' : Nat → Prop) (v' : Value) (w' : World),
        RV β' ((foldM (fun x => listed.getD x false) 0 ds M).upds d.upd) Z' w'.heap d.val v' → RMem β' ((foldM (fun x => listed.getD x false) 0 ds M).upds d.upd) Z' w'.heap →
        EvW β (foldM (fun x => listed.getD x false) 0 ds M) Z w β' ((foldM (fun x => listed.getD x false) 0 ds M).upds d.upd) Z' w' →
        wpAny P .any ops Q fuel (listed.setIfInBounds i true) (a.put d.o.dst v') w' := by
      intro β' Z' v' w' hv hm hev
      refine ih (U.erase i) (listed.setIfInBounds i true) β' Z' _ w' (by simp [hs]) ?_ ?_ ?_ ?_ ?_
      · have : i ∈ U := hun i hlt hDi
        rw [List.length_erase_of_mem this]; omega
      · intro x hx hxf
        rw [hset, Nat.zero_add] at hxf
        simp only [Bool.or_eq_false_iff, beq_eq_false_iff_ne] at hxf
        exact (List.mem_erase_of_ne hxf.1).2 (hun x hx hxf.2)
      · intro j dj hj hDj k hk
        rw [hset] at hDj ⊢
        simp only [Nat.zero_add, Bool.or_eq_true, beq_iff_eq] at hDj ⊢
        rcases hDj with e | e
        · subst e; rw [hd] at hj; cases hj; exact .inr (hwt k hk)
        · exact .inr (hdc j dj hj e k hk)
      · rw [hD', eT, eM]
        have hr' := hr.world hev.toEv.toGrow hm
        cases hdd : d.o.dst with
        | none => exact hr'
        | some t => exact hr'.put (hdst t hdd) hv
      · rw [hD', eM]
        intro β2 Z2 a2 w2 q1 q2 q3
        exact hQ β2 Z2 a2 w2 q1 (hev.trans q2) (by rw [q3, put_defers])
    unfold wpOp
    rw [ho]
    simp only
    rcases hg with (⟨hg, hran⟩ | ⟨j, want, t, b, hg, hdt, ht, hran⟩) | ⟨j, want, t, hg, hdt, ht, hr2⟩
    · rw [if_pos (by simp [Region.wanted, hg])]
      refine .inl ((hop hran).2 _ (hMm hran) β Z a w hr.mem (fun x hx => ?_) _ _ fun v' w' β' Z' g1 g2 g3 => ?_)
      · have : evO (foldT (fun x => decide (x < i)) 0 ds ρ) x = evO (foldT (fun x => listed.getD x false) 0 ds ρ) x := by
          cases x with
          | tmp t => simp only [evO]; exact (hT t (mem_reads hx)).symm
          | _ => rfl
        rw [this]; exact hr.eval x
      · exact next β' Z' v' w' (by simpa [Do.upd, Do.val, hran] using g1) (by simpa [Do.upd, hran] using g2) (by simpa [Do.upd, hran] using g3)
    · have hd' : ((ops[j]?).bind (·.dst)) = some t := by simpa [dstOf] using hdt
      have htr : t ∈ readsOf ops.toList d.o := List.mem_append_right _ (by simp [hg, hdt])
      rw [← hT t htr] at ht
      cases hr2 : d.ran with
      | true =>
        have hw : Region.wanted d.o (yielded ops a.tmps) = true := by
          rw [hr2] at hran
          simp [Region.wanted, hg, yielded, hd', hr.bool ht, ← hran]
        rw [if_pos hw]
        refine .inl ((hop hr2).2 _ (hMm hr2) β Z a w hr.mem (fun x hx => ?_) _ _ fun v' w' β' Z' g1 g2 g3 => ?_)
        · have : evO (foldT (fun x => decide (x < i)) 0 ds ρ) x = evO (foldT (fun x => listed.getD x false) 0 ds ρ) x := by
            cases x with
            | tmp t => simp only [evO]; exact (hT t (mem_reads hx)).symm
            | _ => rfl
          rw [this]; exact hr.eval x
        · exact next β' Z' v' w' (by simpa [Do.upd, Do.val, hr2] using g1) (by simpa [Do.upd, hr2] using g2) (by simpa [Do.upd, hr2] using g3)
      | false =>
        have hw : Region.wanted d.o (yielded ops a.tmps) = false := by
          rw [hr2] at hran
          simp [Region.wanted, hg, yielded, hd', hr.bool ht, ← hran]
        rw [if_neg (by rw [hw]; simp)]
        exact next β Z undef w (by simp [Do.val, hr2]; exact undef_RV) (by simpa [Do.upd, hr2, Mem.upds] using hr.mem) (by simpa [Do.upd, hr2, Mem.upds] using EvW.refl _ _ _ _)
    · have hd' : ((ops[j]?).bind (·.dst)) = some t := by simpa [dstOf] using hdt
      have htr : t ∈ readsOf ops.toList d.o := List.mem_append_right _ (by simp [hg, hdt])
      rw [← hT t htr] at ht
      have hw : Region.wanted d.o (yielded ops a.tmps) = false := by
        have ha := hr.noBool ht
        simp only [Region.wanted, hg, yielded, hd', Option.bind_some]
        cases want <;> rfl
      rw [if_neg (by rw [hw]; simp)]
      exact next β Z undef w (by simp [Do.val, hr2]; exact undef_RV) (by simpa [Do.upd, hr2, Mem.upds] using hr.mem) (by simpa [Do.upd, hr2, Mem.upds] using EvW.refl _ _ _ _)

theorem Rel.drawn {β : Nat → Option Loc} {M : Mem} {Z : Nat → Prop} {ρ : Nat → V} {a : Act} {w : World} (r : Rel β M Z nt ρ a w) (n : Nat) : Rel β M Z nt ρ a { w with drawn := n } := ⟨r.tmps, r.size, r.mem⟩

/-- a region whose order is drawn -/
theorem opsD_ok (hT : TOK P T) (hm : P.follows .mixedOrders = true) {callE : FuncId → List V → Mem → Nat → (Eff → Option R) → Option R} (hcall : CallsOK P callE) {ops : Array Oper} {c : (Nat → V) → Mem → Nat → Option R} {r : R}
    {rid id : Nat} {ρ : Nat → V} {M : Mem} (h : opsD T callE nt ops.toList ops.toList id ρ M [] c = some r) : ∃ ρ' M' nx', c ρ' M' nx' = some r ∧
      ∀ (β : Nat → Option Loc) (Z : Nat → Prop) (a : Act) (w : World) (Q : Exit → Act → World → Prop), Rel β M Z nt ρ a w →
      (∀ β' Z' a' w', Rel β' M' Z' nt ρ' a' w' → EvW β M Z w β' M' Z' w' → a'.defers = a.defers → Q .normal a' w') →
    (Code.region rid ops true).wp P Q a w := by
  obtain ⟨ds, id', h1, h2, h3, h4, h5⟩ := opsD_seq hT hcall _ _ _ _ _ h
  refine ⟨_, _, _, h3, fun β Z a w Q hr hQ => ?_⟩
  have s : Settled P nt ops ds ρ M := ⟨h1, h2, by simpa using h4, h5⟩
  have z : ∀ x, (Array.replicate ops.size false).getD x false = false := fun x => by
    by_cases e : x < ops.size <;> simp [e]
  have z' : (fun x => (Array.replicate ops.size false).getD x false) = (fun _ => false) := funext z
  have zT : ∀ (ds : List Do) (k : Nat) (ρ : Nat → V), foldT (fun x => (Array.replicate ops.size false).getD x false) k ds ρ = ρ := by
    rw [z']
    intro ds; induction ds with
    | nil => intro _ _; rfl
    | cons _ _ ih => intro k ρ; simp only [foldT, Bool.false_eq_true, if_false]; exact ih _ _
  have zM : ∀ (ds : List Do) (k : Nat) (M : Mem), foldM (fun x => (Array.replicate ops.size false).getD x false) k ds M = M := by
    rw [z']
    intro ds; induction ds with
    | nil => intro _ _; rfl
    | cons _ _ ih => intro k ρ; simp only [foldM, Bool.false_eq_true, if_false]; exact ih _ _
  refine wp_region_any hm (any_order s ops.size (List.range ops.size) _ β Z a _ (by simp) (by simp) (fun x hx _ => by simpa using hx) (fun i d _ hD => ?_) ?_ ?_)
  · rw [z] at hD; cases hD
  · rw [zT, zM]; exact hr.drawn _
  · rw [zM]
    intro β' Z' a' w' q1 q2 q3
    exact hQ β' Z' a' w' q1 ⟨q2.toEv, q2.wd⟩ q3

end

end Go.Pv
