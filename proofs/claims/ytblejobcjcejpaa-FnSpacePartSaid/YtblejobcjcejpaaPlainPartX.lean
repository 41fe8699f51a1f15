/- Plain: an extent left out, or told twice. -/
import Derived.Test.YtblejobcjcejpaaPlainTake2
namespace Go.Proofs.Ytblejobcjcejpaa
set_option linter.unusedVariables false

theorem part_out {xs : List (Int × Int)} : ∀ {l : Int} {k : Nat}, validFrom l xs = true → validFrom l (xs.take k ++ xs.drop (k + 1)) = true := by
  induction xs with
  | nil => intro l k h; simpa using h
  | cons x t ih =>
    intro l k h
    have hv := (validFrom_cons _ _ _).1 h
    have vx := (validX_iff _).1 hv.1
    cases k with
    | zero => simp only [List.take_zero, List.nil_append, Nat.zero_add, List.drop_succ_cons, List.drop_zero]; exact validFrom_mono hv.2.2 (by omega)
    | succ k =>
      simp only [List.take_succ_cons, List.drop_succ_cons, List.cons_append]
      rw [validFrom_cons]
      exact ⟨hv.1, hv.2.1, ih hv.2.2⟩

theorem part_twice {xs : List (Int × Int)} : ∀ {l : Int} {k : Nat}, k < xs.length → validFrom l (xs.take (k + 1) ++ xs.drop k) = false := by
  induction xs with
  | nil => intro l k h; simp at h
  | cons x t ih =>
    intro l k hk
    cases k with
    | zero =>
      simp only [Nat.zero_add, List.take_succ_cons, List.take_zero, List.drop_zero, List.cons_append, List.nil_append]
      cases hc : validFrom l (x :: x :: t) with
      | false => rfl
      | true =>
        exfalso
        have h1 := (validFrom_cons _ _ _).1 hc
        have h2 := (validFrom_cons _ _ _).1 h1.2.2
        have := (validX_iff _).1 h1.1
        omega
    | succ k =>
      simp only [List.take_succ_cons, List.drop_succ_cons, List.cons_append]
      unfold validFrom
      rw [ih (by simpa using hk), Bool.and_false]

theorem sum_le_most {xs : List (Int × Int)} : ∀ {l : Int}, validFrom l xs = true → mostX xs ≤ sumX xs ∧ sumX xs ≤ mostX xs * (xs.length : Int) := by
  induction xs with
  | nil => intro l _; simp [mostX, sumX]
  | cons x t ih =>
    intro l h
    have hv := (validFrom_cons _ _ _).1 h
    have vx := (validX_iff _).1 hv.1
    have h0 := (mostX_bound hv.2.2).1
    obtain ⟨a, b⟩ := ih hv.2.2
    rw [mostX_cons _ _ (by omega), sumX_cons]
    refine ⟨by omega, ?_⟩
    have e : (((x :: t).length : Nat) : Int) = (t.length : Int) + 1 := by simp
    rw [e, Int.mul_add, Int.mul_one]
    have h1 : mostX t * (t.length : Int) ≤ max x.2 (mostX t) * (t.length : Int) := Int.mul_le_mul_of_nonneg_right (by omega) (by omega)
    omega

theorem most_free {xs : List (Int × Int)} (h : spaceV xs = true) : mostX xs ≤ sumX xs ∧ sumX xs ≤ mostX xs * (xs.length : Int) ∧ sumX xs ≤ 100 := by
  obtain ⟨a, b⟩ := sum_le_most h
  refine ⟨a, b, ?_⟩
  cases xs with
  | nil => simp [sumX]
  | cons x t =>
    have hv := (validFrom_cons _ _ _).1 h
    have vx := (validX_iff _).1 hv.1
    have := sumX_bound hv.2.2 (by omega)
    rw [sumX_cons]; omega

end Go.Proofs.Ytblejobcjcejpaa
