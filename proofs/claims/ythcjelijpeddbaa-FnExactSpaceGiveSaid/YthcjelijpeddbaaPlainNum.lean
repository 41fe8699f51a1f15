/- Plain law of extents: how many places, and the largest extent. -/
import Derived.Test.YthcjelijpeddbaaPlainSpace
namespace Go.Proofs.Ythcjelijpeddbaa
set_option linter.unusedVariables false

def sumX (xs : List (Int × Int)) : Int := xs.foldl (fun s x => s + x.2) 0
def mostX (xs : List (Int × Int)) : Int := xs.foldl (fun s x => max s x.2) 0
def freeV (xs : List (Int × Int)) : Int := if spaceV xs = true then sumX xs else -1
def mostV (xs : List (Int × Int)) : Int := if spaceV xs = true then mostX xs else -1

theorem take_one_more {xs : List (Int × Int)} {k : Nat} (h : k < xs.length) : xs.take (k + 1) = xs.take k ++ [xs.getD k (0, 0)] := by
  rw [List.take_succ_eq_append_getElem h]
  simp [List.getD, h]

theorem sumX_take {xs : List (Int × Int)} {k : Nat} (h : k < xs.length) : sumX (xs.take (k + 1)) = sumX (xs.take k) + (xs.getD k (0, 0)).2 := by
  rw [take_one_more h]; simp [sumX]

theorem mostX_take {xs : List (Int × Int)} {k : Nat} (h : k < xs.length) : mostX (xs.take (k + 1)) = max (mostX (xs.take k)) (xs.getD k (0, 0)).2 := by
  rw [take_one_more h]; simp [mostX]

theorem foldl_sum (xs : List (Int × Int)) : ∀ s : Int, xs.foldl (fun s x => s + x.2) s = s + sumX xs := by
  induction xs with
  | nil => intro s; simp [sumX]
  | cons x t ih =>
    intro s
    have h0 : sumX (x :: t) = 0 + x.2 + sumX t := ih (0 + x.2)
    rw [List.foldl_cons, ih, h0]
    omega

theorem sumX_cons (x : Int × Int) (t : List (Int × Int)) : sumX (x :: t) = x.2 + sumX t := by
  rw [sumX, List.foldl_cons, foldl_sum]; omega

theorem sumX_append (xs ys : List (Int × Int)) : sumX (xs ++ ys) = sumX xs + sumX ys := by
  rw [sumX, List.foldl_append, foldl_sum]; rfl

theorem sumX_bound {xs : List (Int × Int)} : ∀ {l : Int}, validFrom l xs = true → l ≤ 101 → 0 ≤ sumX xs ∧ sumX xs ≤ 101 - l := by
  induction xs with
  | nil => intro l _ h; simp [sumX]; omega
  | cons x t ih =>
    intro l hv hl
    rw [validFrom_cons, validX_iff] at hv
    have := ih hv.2.2 (by omega)
    rw [sumX_cons]
    omega

theorem validFrom_take {xs : List (Int × Int)} : ∀ {l : Int} (k : Nat), validFrom l xs = true → validFrom l (xs.take k) = true := by
  induction xs with
  | nil => intro l k h; simpa using h
  | cons x t ih =>
    intro l k h
    cases k with
    | zero => rfl
    | succ k =>
      rw [List.take_succ_cons, validFrom_cons]
      rw [validFrom_cons] at h
      exact ⟨h.1, h.2.1, ih k h.2.2⟩

theorem valid_at {xs : List (Int × Int)} : ∀ {l : Int} {k : Nat}, validFrom l xs = true → k < xs.length → validX (xs.getD k (0, 0)) = true := by
  induction xs with
  | nil => intro l k _ h; simp at h
  | cons x t ih =>
    intro l k hv hk
    rw [validFrom_cons] at hv
    cases k with
    | zero => exact hv.1
    | succ k => simpa using ih hv.2.2 (by simpa using hk)

theorem mostX_bound {xs : List (Int × Int)} {l : Int} (h : validFrom l xs = true) : 0 ≤ mostX xs ∧ mostX xs ≤ 100 := by
  have key : ∀ (ys : List (Int × Int)) (s : Int), (∀ y ∈ ys, y.2 ≤ 100) → 0 ≤ s → s ≤ 100 → 0 ≤ ys.foldl (fun s x => max s x.2) s ∧ ys.foldl (fun s x => max s x.2) s ≤ 100 := by
    intro ys
    induction ys with
    | nil => intro s _ h0 h1; exact ⟨h0, h1⟩
    | cons y t ih =>
      intro s hy h0 h1
      have := hy y (by simp)
      rw [List.foldl_cons]
      exact ih _ (fun z hz => hy z (by simp [hz])) (by omega) (by omega)
  refine key xs 0 (fun y hy => ?_) (by omega) (by omega)
  obtain ⟨k, hk, rfl⟩ := List.getElem_of_mem hy
  have := valid_at h hk
  rw [validX_iff] at this
  simp [List.getD, hk] at this
  omega

end Go.Proofs.Ythcjelijpeddbaa
