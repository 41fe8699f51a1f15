/- Plain: a path's parts, whether it is valid. -/
import Derived.Test.YtdjpaibjelfhnaaBase
import Derived.Lib.Split
namespace Go.Proofs.Ytdjpaibjelfhnaa
set_option linter.unusedVariables false

/-- A text cut at its slashes. -/
def cutL : List UInt8 → List (List UInt8)
  | [] => [[]]
  | b :: l => if b = 47 then [] :: cutL l else match cutL l with
    | [] => [[b]]
    | p :: ps => (b :: p) :: ps

theorem cutL_ne (l : List UInt8) : cutL l ≠ [] := by
  cases l with
  | nil => simp [cutL]
  | cons b l =>
    unfold cutL
    split
    · simp
    · split <;> simp

theorem cutL_slash (l : List UInt8) : cutL (47 :: l) = [] :: cutL l := by simp [cutL]

theorem cutL_other {b : UInt8} (l : List UInt8) (h : b ≠ 47) : ∃ p ps, cutL l = p :: ps ∧ cutL (b :: l) = (b :: p) :: ps := by
  cases hc : cutL l with
  | nil => exact absurd hc (cutL_ne l)
  | cons p ps => exact ⟨p, ps, rfl, by rw [cutL, if_neg h, hc]⟩

/-- No slash at all: one part. -/
theorem cutL_none {l : List UInt8} (h : ∀ b ∈ l, b ≠ 47) : cutL l = [l] := by
  induction l with
  | nil => rfl
  | cons b l ih =>
    have h1 := ih (fun c hc => h c (by simp [hc]))
    obtain ⟨p, ps, e1, e2⟩ := cutL_other l (h b (by simp))
    rw [h1] at e1
    injection e1 with e1 e3
    subst e1 e3
    exact e2

/-- The first slash. -/
theorem cutL_first {p l : List UInt8} (h : ∀ b ∈ p, b ≠ 47) : cutL (p ++ 47 :: l) = p :: cutL l := by
  induction p with
  | nil => exact cutL_slash l
  | cons b p ih =>
    have h1 := ih (fun c hc => h c (by simp [hc]))
    obtain ⟨q, qs, e1, e2⟩ := cutL_other (p ++ 47 :: l) (h b (by simp))
    rw [h1] at e1
    injection e1 with e1 e3
    subst e1 e3
    exact e2

/-- The last slash. -/
theorem cutL_last {a p : List UInt8} (h : ∀ b ∈ p, b ≠ 47) : cutL (a ++ 47 :: p) = cutL a ++ [p] := by
  induction a with
  | nil => rw [List.nil_append, cutL_slash, cutL_none h]; rfl
  | cons b a ih =>
    by_cases hb : b = 47
    · subst hb
      rw [List.cons_append, cutL_slash, cutL_slash, ih]; rfl
    · obtain ⟨q, qs, e1, e2⟩ := cutL_other (a ++ 47 :: p) hb
      obtain ⟨q', qs', e1', e2'⟩ := cutL_other a hb
      rw [List.cons_append, e2, e2']
      rw [ih, e1'] at e1
      injection e1 with e1 e3
      subst e1 e3
      rfl

theorem cutL_append {a b : List UInt8} : cutL (a ++ 47 :: b) = cutL a ++ cutL b := by
  induction a with
  | nil => rw [List.nil_append, cutL_slash]; rfl
  | cons c a ih =>
    by_cases hc : c = 47
    · subst hc
      rw [List.cons_append, cutL_slash, cutL_slash, ih]; rfl
    · obtain ⟨q, qs, e1, e2⟩ := cutL_other (a ++ 47 :: b) hc
      obtain ⟨q', qs', e1', e2'⟩ := cutL_other a hc
      rw [List.cons_append, e2, e2']
      rw [ih, e1'] at e1
      injection e1 with e1 e3
      subst e1 e3
      rfl

/-- Parts with slashes between them. -/
def joinL : List (List UInt8) → List UInt8
  | [] => []
  | [p] => p
  | p :: q :: ps => p ++ 47 :: joinL (q :: ps)

theorem joinL_cons (p : List UInt8) {ps : List (List UInt8)} (h : ps ≠ []) : joinL (p :: ps) = p ++ 47 :: joinL ps := by
  cases ps with
  | nil => exact absurd rfl h
  | cons q qs => rfl

theorem join_cut (l : List UInt8) : joinL (cutL l) = l := by
  induction l with
  | nil => rfl
  | cons b l ih =>
    by_cases hb : b = 47
    · subst hb
      rw [cutL_slash, joinL_cons _ (cutL_ne l), ih]; rfl
    · obtain ⟨p, ps, e1, e2⟩ := cutL_other l hb
      rw [e2]
      rw [e1] at ih
      cases ps with
      | nil => simp only [joinL] at ih ⊢; rw [ih]
      | cons q qs => simp only [joinL] at ih ⊢; rw [← ih]; rfl

theorem cutL_mem {l p : List UInt8} (h : p ∈ cutL l) : ∀ b ∈ p, b ≠ 47 := by
  induction l generalizing p with
  | nil => simp [cutL] at h; subst h; intro b hb; cases hb
  | cons c l ih =>
    by_cases hc : c = 47
    · subst hc
      rw [cutL_slash] at h
      rcases List.mem_cons.1 h with rfl | h
      · intro b hb; cases hb
      · exact ih h
    · obtain ⟨q, qs, e1, e2⟩ := cutL_other l hc
      rw [e2] at h
      rcases List.mem_cons.1 h with rfl | h
      · intro b hb
        rcases List.mem_cons.1 hb with rfl | hb
        · exact hc
        · exact ih (p := q) (by rw [e1]; simp) b hb
      · exact ih (p := p) (by rw [e1]; simp [h])

/-- A small letter. -/
def lower (b : UInt8) : Bool := decide (97 ≤ b.toNat) && decide (b.toNat ≤ 122)
/-- A valid part: 1 to 5 small letters. -/
def partV (p : List UInt8) : Bool := decide (1 ≤ p.length) && decide (p.length ≤ 5) && p.all lower
/-- A valid path. -/
def pathV (l : List UInt8) : Bool := decide ((cutL l).length ≤ 4) && (cutL l).all partV

theorem partV_iff (p : List UInt8) : partV p = true ↔ 1 ≤ p.length ∧ p.length ≤ 5 ∧ ∀ b ∈ p, 97 ≤ b.toNat ∧ b.toNat ≤ 122 := by
  unfold partV lower
  simp only [Bool.and_eq_true, decide_eq_true_eq, List.all_eq_true]
  constructor
  · rintro ⟨⟨a, b⟩, c⟩; exact ⟨a, b, c⟩
  · rintro ⟨a, b, c⟩; exact ⟨⟨a, b⟩, c⟩

theorem pathV_iff (l : List UInt8) : pathV l = true ↔ (cutL l).length ≤ 4 ∧ ∀ p ∈ cutL l, partV p = true := by
  unfold pathV
  simp only [Bool.and_eq_true, decide_eq_true_eq, List.all_eq_true]

theorem join_length {ps : List (List UInt8)} {m : Nat} (h : ∀ p ∈ ps, p.length ≤ m) (h0 : ps ≠ []) : (joinL ps).length + 1 ≤ ps.length * (m + 1) := by
  induction ps with
  | nil => exact absurd rfl h0
  | cons p ps ih =>
    have hp := h p (by simp)
    by_cases hn : ps = []
    · subst hn; simp [joinL]; omega
    · have := ih (fun q hq => h q (by simp [hq])) hn
      rw [joinL_cons _ hn]
      simp only [List.length_append, List.length_cons]
      rw [Nat.add_mul]
      omega

/-- A valid path is short. -/
theorem pathV_length {l : List UInt8} (h : pathV l = true) : l.length ≤ 23 := by
  obtain ⟨h1, h2⟩ := (pathV_iff l).1 h
  have := join_length (ps := cutL l) (m := 5) (fun p hp => ((partV_iff p).1 (h2 p hp)).2.1) (cutL_ne l)
  rw [join_cut] at this
  have h3 : (cutL l).length * (5 + 1) ≤ 4 * (5 + 1) := Nat.mul_le_mul_right _ h1
  omega

theorem pathV_nil : pathV [] = false := by decide

/-- What PathParts answers. -/
def partsR (l : List UInt8) : List (List UInt8) := if pathV l = true then cutL l else []

end Go.Proofs.Ytdjpaibjelfhnaa
