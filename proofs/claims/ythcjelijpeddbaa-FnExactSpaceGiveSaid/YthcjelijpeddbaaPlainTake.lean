/- Plain: what SpaceTake and SpaceGive answer. -/
import Derived.Test.YthcjelijpeddbaaPlainExt
namespace Go.Proofs.Ythcjelijpeddbaa
set_option linter.unusedVariables false

/-- What SpaceTake answers: the extents that are left, the first place, whether it was done. -/
def takeR (xs : List (Int × Int)) (m : Int) : List (Int × Int) × Int × Bool :=
  if spaceV xs = true ∧ 1 ≤ m ∧ m ≤ 100 then
    match takeX xs m with
    | some r => (r.1, r.2, true)
    | none => ([], 0, false)
  else ([], 0, false)

theorem takeR_bad {xs : List (Int × Int)} {m : Int} (h : ¬ (spaceV xs = true ∧ 1 ≤ m ∧ m ≤ 100)) : takeR xs m = ([], 0, false) := by
  unfold takeR; rw [if_neg h]

theorem takeR_some {xs : List (Int × Int)} {m : Int} {r : List (Int × Int) × Int} (h : spaceV xs = true ∧ 1 ≤ m ∧ m ≤ 100) (hr : takeX xs m = some r) : takeR xs m = (r.1, r.2, true) := by
  unfold takeR; rw [if_pos h, hr]

theorem takeR_none {xs : List (Int × Int)} {m : Int} (hr : takeX xs m = none) : takeR xs m = ([], 0, false) := by
  unfold takeR; rw [hr]; split <;> rfl

theorem takeX_none {xs : List (Int × Int)} {m : Int} (h : ∀ j, j < xs.length → (xs.getD j (0, 0)).2 < m) : takeX xs m = none := by
  induction xs with
  | nil => rfl
  | cons x t ih =>
    have h0 := h 0 (by simp)
    simp [List.getD_eq_getElem?_getD] at h0
    unfold takeX
    rw [if_neg (by omega), ih (fun j hj => by have := h (j + 1) (by simpa using hj); simpa [List.getD_eq_getElem?_getD] using this)]
    rfl

/-- What is left of the extent that gives m places. -/
def restX (x : Int × Int) (m : Int) : List (Int × Int) := if x.2 = m then [] else [(x.1 + m, x.2 - m)]

theorem takeX_at {xs : List (Int × Int)} {m : Int} : ∀ {k : Nat}, k < xs.length → (∀ j, j < k → (xs.getD j (0, 0)).2 < m) → m ≤ (xs.getD k (0, 0)).2 →
    takeX xs m = some (xs.take k ++ restX (xs.getD k (0, 0)) m ++ xs.drop (k + 1), (xs.getD k (0, 0)).1) := by
  induction xs with
  | nil => intro k h _ _; simp at h
  | cons x t ih =>
    intro k hk h hm
    cases k with
    | zero =>
      simp [List.getD_eq_getElem?_getD] at hm
      unfold takeX
      rw [if_pos hm]
      simp only [List.getD_eq_getElem?_getD, List.getElem?_cons_zero, Option.getD_some, List.take_zero, List.nil_append, restX, Nat.zero_add, List.drop_succ_cons, List.drop_zero]
      split <;> simp
    | succ k =>
      have h0 := h 0 (by omega)
      simp [List.getD_eq_getElem?_getD] at h0
      have e : (x :: t).getD (k + 1) (0, 0) = t.getD k (0, 0) := by simp [List.getD_eq_getElem?_getD]
      rw [e] at hm ⊢
      unfold takeX
      rw [if_neg (by omega), ih (k := k) (by simpa using hk) (fun j hj => by have := h (j + 1) (by omega); simpa [List.getD_eq_getElem?_getD] using this) hm]
      simp

/-- Extents with the right places are those that takeX leaves. -/
theorem take_unique {xs ys : List (Int × Int)} {m : Int} {r : List (Int × Int) × Int} (hv : spaceV xs = true) (hm : 1 ≤ m) (hr : takeX xs m = some r) (hy : spaceV ys = true)
    (h : ∀ p, inS ys p = (decide (0 ≤ p) && decide (p < 100) && (inS xs p && !inX (r.2, m) p))) : ys = r.1 := by
  obtain ⟨h1, h2, h3, h4, h5⟩ := takeX_spec hm hv hr
  refine space_unique ys r.1 0 0 hy h1 (fun p => ?_)
  rw [h, h5, Bool.eq_iff_iff]
  simp only [Bool.and_eq_true, decide_eq_true_eq, inX]
  constructor
  · rintro ⟨_, b⟩; exact b
  · rintro ⟨a, b⟩
    have := inS_ge hv a
    exact ⟨by omega, a, b⟩

/-- Whether an extent meets one of some others. -/
def meetsL (xs : List (Int × Int)) (x : Int × Int) : Bool := xs.any fun y => meets y x

theorem meetsL_false {xs : List (Int × Int)} {x : Int × Int} : meetsL xs x = false ↔ ∀ y ∈ xs, meets y x = false := by
  simp [meetsL]

/-- What SpaceGive answers. -/
def giveR (xs : List (Int × Int)) (x : Int × Int) : List (Int × Int) × Bool :=
  if spaceV xs = true ∧ validX x = true ∧ meetsL xs x = false then (giveL xs x, true) else ([], false)

theorem giveR_bad {xs : List (Int × Int)} {x : Int × Int} (h : ¬ (spaceV xs = true ∧ validX x = true ∧ meetsL xs x = false)) : giveR xs x = ([], false) := by
  unfold giveR; rw [if_neg h]

theorem giveR_good {xs : List (Int × Int)} {x : Int × Int} (h : spaceV xs = true ∧ validX x = true ∧ meetsL xs x = false) : giveR xs x = (giveL xs x, true) := by
  unfold giveR; rw [if_pos h]

theorem give_unique {xs ys : List (Int × Int)} {x : Int × Int} (hv : spaceV xs = true) (hx : validX x = true) (hm : meetsL xs x = false) (hy : spaceV ys = true)
    (h : ∀ p, inS ys p = (decide (0 ≤ p) && decide (p < 100) && (inS xs p || inX x p))) : ys = giveL xs x := by
  obtain ⟨h1, h2⟩ := giveL_spec hv hx (meetsL_false.1 hm)
  have vx := (validX_iff _).1 hx
  refine space_unique ys _ 0 0 hy h1 (fun p => ?_)
  rw [h, h2, Bool.eq_iff_iff]
  simp only [Bool.and_eq_true, Bool.or_eq_true, decide_eq_true_eq, inX_iff]
  constructor
  · rintro ⟨_, b⟩; exact b
  · rintro (a | a)
    · have := inS_ge hv a; exact ⟨by omega, .inl a⟩
    · exact ⟨by omega, .inr a⟩

/-- An extent meets none just if none of its places is marked. -/
theorem meetsL_iff {xs : List (Int × Int)} {x : Int × Int} (h : spaceV xs = true) (hx : validX x = true) : meetsL xs x = false ↔ ∀ p, x.1 ≤ p → p < x.1 + x.2 → inS xs p = false :=
  meetsL_false.trans (meets_iff h hx)

theorem meetsL_true {xs : List (Int × Int)} {x : Int × Int} (h : spaceV xs = true) (hx : validX x = true) (hm : meetsL xs x = true) : ∃ p, x.1 ≤ p ∧ p < x.1 + x.2 ∧ inS xs p = true := by
  refine Classical.byContradiction fun hn => ?_
  have : meetsL xs x = false := (meetsL_iff h hx).2 (fun p h1 h2 => by
    cases hc : inS xs p with
    | false => rfl
    | true => exact absurd ⟨p, h1, h2, hc⟩ hn)
  rw [hm] at this; cases this

end Go.Proofs.Ythcjelijpeddbaa
