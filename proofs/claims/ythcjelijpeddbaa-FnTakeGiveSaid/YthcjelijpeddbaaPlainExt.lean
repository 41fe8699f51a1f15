/- Plain: extents collected of a set of places. -/
import Derived.Test.YthcjelijpeddbaaPlainSpace
namespace Go.Proofs.Ythcjelijpeddbaa
set_option linter.unusedVariables false

/-- The extents zs are those of the places of S below q. -/
def ExtOK (S : Int → Bool) (zs : List (Int × Int)) (q : Int) : Prop :=
  validFrom 0 zs = true ∧ (∀ y ∈ zs, y.1 + y.2 + 1 ≤ q) ∧ ∀ p, inS zs p = (decide (0 ≤ p) && decide (p < q) && decide (p < 100) && S p)

theorem ExtOK.nil (S : Int → Bool) : ExtOK S [] 0 := by
  refine ⟨rfl, (by intro y hy; cases hy), fun p => ?_⟩
  have : (decide (0 ≤ p) && decide (p < 0)) = false := by simp
  rw [this]; rfl

theorem ExtOK.skip {S : Int → Bool} {zs : List (Int × Int)} {q : Int} (h : ExtOK S zs q) (hS : S q = false) : ExtOK S zs (q + 1) := by
  obtain ⟨h1, h2, h3⟩ := h
  refine ⟨h1, fun y hy => by have := h2 y hy; omega, fun p => ?_⟩
  rw [h3, Bool.eq_iff_iff]
  simp only [Bool.and_eq_true, decide_eq_true_eq]
  constructor
  · rintro ⟨⟨⟨a, b⟩, c⟩, d⟩; exact ⟨⟨⟨a, by omega⟩, c⟩, d⟩
  · rintro ⟨⟨⟨a, b⟩, c⟩, d⟩
    refine ⟨⟨⟨a, ?_⟩, c⟩, d⟩
    rcases Int.lt_or_le p q with h | h
    · exact h
    · exfalso
      obtain rfl : p = q := by omega
      rw [hS] at d; cases d

theorem ExtOK.snoc {S : Int → Bool} {zs : List (Int × Int)} {q r : Int} (h : ExtOK S zs q) (h0 : 0 ≤ q) (hqr : q < r) (hr : r ≤ 100) (hin : ∀ p, q ≤ p → p < r → S p = true) (hend : r < 100 → S r = false) :
    ExtOK S (zs ++ [(q, r - q)]) (r + 1) := by
  obtain ⟨h1, h2, h3⟩ := h
  refine ⟨valid_snoc h1 ?_ h0 (fun y hy => h2 y hy), fun y hy => ?_, fun p => ?_⟩
  · rw [validX_iff]; simp only; omega
  · rcases List.mem_append.1 hy with h | h
    · have := h2 y h; omega
    · simp at h; subst h; simp only; omega
  · rw [inS_append, h3, Bool.eq_iff_iff]
    simp only [inS, List.any_cons, List.any_nil, Bool.or_false, Bool.or_eq_true, Bool.and_eq_true, decide_eq_true_eq, inX_iff]
    constructor
    · rintro (⟨⟨⟨a, b⟩, c⟩, d⟩ | ⟨a, b⟩)
      · exact ⟨⟨⟨a, by omega⟩, c⟩, d⟩
      · exact ⟨⟨⟨by omega, by omega⟩, by omega⟩, hin p a (by omega)⟩
    · rintro ⟨⟨⟨a, b⟩, c⟩, d⟩
      rcases Int.lt_or_le p q with h | h
      · exact .inl ⟨⟨⟨a, h⟩, c⟩, d⟩
      · rcases Int.lt_or_le p r with h' | h'
        · exact .inr ⟨h, by omega⟩
        · exfalso
          obtain rfl : p = r := by omega
          rw [hend c] at d; cases d

/-- Collected to the end: the extents of S. -/
theorem ExtOK.done {S : Int → Bool} {zs : List (Int × Int)} {q : Int} (h : ExtOK S zs q) (hq : 100 ≤ q) : spaceV zs = true ∧ ∀ p, inS zs p = (decide (0 ≤ p) && decide (p < 100) && S p) := by
  refine ⟨h.1, fun p => ?_⟩
  rw [h.2.2, Bool.eq_iff_iff]
  simp only [Bool.and_eq_true, decide_eq_true_eq]
  constructor
  · rintro ⟨⟨⟨a, b⟩, c⟩, d⟩; exact ⟨⟨a, c⟩, d⟩
  · rintro ⟨⟨a, c⟩, d⟩; exact ⟨⟨⟨a, by omega⟩, c⟩, d⟩

theorem valid_count {xs : List (Int × Int)} : ∀ {l : Int}, validFrom l xs = true → 0 ≤ l → xs ≠ [] → l + (xs.length : Int) ≤ 100 := by
  induction xs with
  | nil => intro l _ _ h; exact absurd rfl h
  | cons x t ih =>
    intro l h h0 _
    rw [validFrom_cons] at h
    have vx := (validX_iff _).1 h.1
    by_cases ht : t = []
    · subst ht; simp; omega
    · have := ih h.2.2 (by omega) ht
      simp only [List.length_cons]
      omega

theorem space_count {xs : List (Int × Int)} (h : spaceV xs = true) : xs.length ≤ 100 := by
  by_cases hx : xs = []
  · subst hx; simp
  · have := valid_count h (Int.le_refl 0) hx; omega

theorem wf_space {xs : List (Int × Int)} : ∀ {l : Int}, validFrom l xs = true → ∀ x ∈ xs, 0 ≤ x.1 ∧ x.1 < 100 ∧ 1 ≤ x.2 ∧ x.2 ≤ 100 - x.1 := by
  induction xs with
  | nil => intro l _ x hx; cases hx
  | cons z t ih =>
    intro l h
    rw [validFrom_cons] at h
    intro y hy
    rcases List.mem_cons.1 hy with rfl | hy
    · exact (validX_iff _).1 h.1
    · exact ih h.2.2 y hy

end Go.Proofs.Ythcjelijpeddbaa
