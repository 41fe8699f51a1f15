/- Plain: what the functions on paths answer. -/
import Derived.Test.YtdjpaibjelfhnaaPlainPath
namespace Go.Proofs.Ytdjpaibjelfhnaa
set_option linter.unusedVariables false

/-- The last slash's place, or -1. -/
def lastL : List UInt8 → Int
  | [] => -1
  | b :: t => if 0 ≤ lastL t then lastL t + 1 else if b = 47 then 0 else -1

theorem lastL_ge (l : List UInt8) : -1 ≤ lastL l := by
  induction l with
  | nil => simp [lastL]
  | cons b t ih => unfold lastL; split <;> (try split) <;> omega

theorem lastL_snoc (l : List UInt8) (b : UInt8) : lastL (l ++ [b]) = if b = 47 then (l.length : Int) else lastL l := by
  induction l with
  | nil => simp [lastL]
  | cons c t ih =>
    rw [List.cons_append, lastL, ih]
    by_cases hb : b = 47
    · simp only [hb, if_true, List.length_cons]
      rw [if_pos (by omega)]; omega
    · simp only [hb, if_false]
      rfl

/-- No slash, or the last one with its place. -/
theorem lastL_cases (l : List UInt8) : (lastL l = -1 ∧ ∀ b ∈ l, b ≠ 47) ∨ ∃ a p, l = a ++ 47 :: p ∧ lastL l = (a.length : Int) ∧ ∀ b ∈ p, b ≠ 47 := by
  induction l with
  | nil => left; exact ⟨rfl, by intro b hb; cases hb⟩
  | cons c t ih =>
    rcases ih with ⟨h1, h2⟩ | ⟨a, p, h1, h2, h3⟩
    · by_cases hc : c = 47
      · right
        refine ⟨[], t, by simp [hc], ?_, h2⟩
        unfold lastL; rw [h1, if_neg (by omega), if_pos hc]; rfl
      · left
        refine ⟨?_, fun b hb => ?_⟩
        · unfold lastL; rw [h1, if_neg (by omega), if_neg hc]
        · rcases List.mem_cons.1 hb with rfl | hb
          · exact hc
          · exact h2 b hb
    · right
      refine ⟨c :: a, p, by rw [h1]; rfl, ?_, h3⟩
      unfold lastL; rw [h2, if_pos (by omega)]; simp

/-- What PathParent answers. -/
def parentR (l : List UInt8) : List UInt8 × Bool := if pathV l = true then (l.take (lastL l).toNat, true) else ([], false)

/-- A path is another one or in it, or all. -/
def withinL (l d : List UInt8) : Bool := decide (d = []) || decide (l = d) || (decide (d.length < l.length) && decide (l.take d.length = d) && decide (l[d.length]? = some 47))

/-- A directory. -/
def dirV (d : List UInt8) : Bool := decide (d = []) || pathV d

/-- What PathWithin answers. -/
def withinR (l d : List UInt8) : Bool := pathV l && dirV d && withinL l d

/-- What PathMove answers. -/
def moveR (l f t : List UInt8) : List UInt8 × Bool :=
  if pathV l = true ∧ pathV f = true ∧ pathV t = true ∧ withinL l f = true ∧ pathV (t ++ l.drop f.length) = true then (t ++ l.drop f.length, true) else ([], false)

theorem withinL_iff {l d : List UInt8} : withinL l d = true ↔ d = [] ∨ l = d ∨ ∃ r, l = d ++ 47 :: r := by
  unfold withinL
  simp only [Bool.or_eq_true, Bool.and_eq_true, decide_eq_true_eq]
  constructor
  · rintro ((h | h) | ⟨⟨h1, h2⟩, h3⟩)
    · exact .inl h
    · exact .inr (.inl h)
    · right; right
      refine ⟨l.drop (d.length + 1), ?_⟩
      have hl : d.length < l.length := h1
      have hg : l[d.length] = 47 := by rw [List.getElem?_eq_getElem hl] at h3; injection h3
      calc l = l.take d.length ++ l.drop d.length := (List.take_append_drop _ _).symm
        _ = d ++ l.drop d.length := by rw [h2]
        _ = d ++ 47 :: l.drop (d.length + 1) := by rw [List.drop_eq_getElem_cons hl, hg]
  · rintro (h | h | ⟨r, h⟩)
    · exact .inl (.inl h)
    · exact .inl (.inr h)
    · right
      subst h
      refine ⟨⟨by simp, by simp⟩, by simp⟩

/-- The program's test: a prefix with a slash behind it. -/
theorem prefix_iff {l d : List UInt8} : (d ++ [47]).isPrefixOf l = true ↔ ∃ r, l = d ++ 47 :: r := by
  rw [List.isPrefixOf_iff_prefix]
  constructor
  · rintro ⟨r, h⟩; exact ⟨r, by rw [← h]; simp⟩
  · rintro ⟨r, h⟩; exact ⟨r, by rw [h]; simp⟩

theorem withinL_prefix {l d : List UInt8} (h0 : d ≠ []) (h1 : l ≠ d) : withinL l d = (d ++ [47]).isPrefixOf l := by
  rw [Bool.eq_iff_iff, withinL_iff, prefix_iff]
  constructor
  · rintro (h | h | h)
    · exact absurd h h0
    · exact absurd h h1
    · exact h
  · intro h; exact .inr (.inr h)

theorem withinL_nil (l : List UInt8) : withinL l [] = true := withinL_iff.2 (.inl rfl)
theorem withinL_self (l : List UInt8) : withinL l l = true := withinL_iff.2 (.inr (.inl rfl))

/-- The parent of a valid path is a directory; its parts are all but the last. -/
theorem parent_parts {l : List UInt8} (h : pathV l = true) :
    ((cutL l).length = 1 ∧ lastL l = -1 ∧ l.take (lastL l).toNat = []) ∨
    (1 < (cutL l).length ∧ ∃ a p, l = a ++ 47 :: p ∧ lastL l = (a.length : Int) ∧ l.take (lastL l).toNat = a ∧ cutL l = cutL a ++ [p] ∧ pathV a = true ∧ partV p = true) := by
  obtain ⟨h1, h2⟩ := (pathV_iff l).1 h
  rcases lastL_cases l with ⟨e, hno⟩ | ⟨a, p, e1, e2, e3⟩
  · left
    refine ⟨by rw [cutL_none hno]; rfl, e, by rw [e]; rfl⟩
  · right
    have hc : cutL l = cutL a ++ [p] := by rw [e1]; exact cutL_last e3
    have hne : 1 ≤ (cutL a).length := by
      have := cutL_ne a
      cases hca : cutL a with
      | nil => exact absurd hca this
      | cons x y => simp
    refine ⟨by rw [hc]; simp; omega, a, p, e1, e2, ?_, hc, ?_, h2 p (by rw [hc]; simp)⟩
    · rw [e2, e1]; simp
    · rw [pathV_iff]
      refine ⟨by rw [hc] at h1; simp at h1; omega, fun q hq => h2 q (by rw [hc]; simp [hq])⟩

theorem pathV_parts {l : List UInt8} (h : pathV l = true) : 1 ≤ (cutL l).length ∧ (cutL l).length ≤ 4 ∧ ∀ p ∈ cutL l, partV p = true := by
  obtain ⟨h1, h2⟩ := (pathV_iff l).1 h
  refine ⟨?_, h1, h2⟩
  cases hca : cutL l with
  | nil => exact absurd hca (cutL_ne l)
  | cons x y => simp

end Go.Proofs.Ytdjpaibjelfhnaa
