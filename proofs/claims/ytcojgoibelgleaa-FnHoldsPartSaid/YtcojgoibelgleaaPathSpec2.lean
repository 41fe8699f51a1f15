/- Contracts of the reference's l1Dir, l1Within, PathParent, PathWithin, PathMove. -/
import Derived.Test.YtcojgoibelgleaaPathSpec
namespace Go.Proofs.Ytcojgoibelgleaa
open Go.RowKit
set_option linter.unusedVariables false

theorem toL (s : ByteArray) : s.toList = bts s := ByteArray.toList_eq s

/-- How the walk asks whether two texts are equal, whether one is empty. -/
theorem eqT {s t : ByteArray} (h : bts s = bts t) : (s.toList == t.toList) = true := by rw [toL, toL, h]; simp
theorem neT {s t : ByteArray} (h : bts s ≠ bts t) : (s.toList == t.toList) = false := by rw [toL, toL]; simpa using h
theorem emT {s : ByteArray} (h : bts s = []) : s.toList = [] ∧ s.toList.isEmpty = true := by rw [toL, h]; simp
theorem nemT {s : ByteArray} (h : bts s ≠ []) : ¬ s.toList = [] ∧ s.toList.isEmpty = false := by rw [toL]; simpa using h

theorem withinL_no {l d : List UInt8} (h0 : d ≠ []) (h1 : l ≠ d) (h : ¬ (d.length < l.length ∧ l.take d.length = d ∧ l[d.length]? = some 47)) : withinL l d = false := by
  unfold withinL
  simp only [h0, h1, decide_false, Bool.false_or]
  cases hc : (decide (d.length < l.length) && decide (l.take d.length = d) && decide (l[d.length]? = some 47)) with
  | false => rfl
  | true =>
    simp only [Bool.and_eq_true, decide_eq_true_eq] at hc
    exact absurd ⟨hc.1.1, hc.1.2, hc.2⟩ h

theorem withinL_yes {l d : List UInt8} (h : d = [] ∨ l = d ∨ (d.length < l.length ∧ l.take d.length = d ∧ l[d.length]? = some 47)) : withinL l d = true := by
  unfold withinL
  rcases h with h | h | ⟨h1, h2, h3⟩
  · simp [h]
  · simp [h]
  · rw [decide_eq_true h1, decide_eq_true h2, decide_eq_true h3]; simp

/-- A string and a bool are handed back. -/
def RetP (w : World) (l : List UInt8 × Bool) (e : Ending) (w' : World) : Prop := e = .returned (.tuple #[.string (mkS l.1), .bool l.2]) ∧ Below w.heap.size w w'

theorem parentR_yes {l : List UInt8} (h : pathV l = true) : parentR l = (l.take (lastL l).toNat, true) := by simp [parentR, h]
theorem parentR_no {l : List UInt8} (h : pathV l = false) : parentR l = ([], false) := by simp [parentR, h]

theorem moveR_no {l f t : List UInt8} (h : ¬ (pathV l = true ∧ pathV f = true ∧ pathV t = true ∧ withinL l f = true ∧ pathV (t ++ l.drop f.length) = true)) : moveR l f t = ([], false) := by
  unfold moveR; rw [if_neg h]
theorem moveR_yes {l f t : List UInt8} (h : pathV l = true ∧ pathV f = true ∧ pathV t = true ∧ withinL l f = true ∧ pathV (t ++ l.drop f.length) = true) : moveR l f t = (t ++ l.drop f.length, true) := by
  unfold moveR; rw [if_pos h]

theorem withinL_len {l d : List UInt8} (h : withinL l d = true) : d.length ≤ l.length := by
  rcases withinL_iff.1 h with h | h | ⟨r, h⟩
  · subst h; simp
  · subst h; exact Nat.le_refl _
  · subst h; simp

theorem moved_bts (s f t : ByteArray) : bts (t ++ s.extract f.size s.size) = bts t ++ (bts s).drop (bts f).length := by
  rw [bts_append, bts_extract, bts_length, List.take_of_length_le (by rw [List.length_drop, bts_length]; omega)]

end Go.Proofs.Ytcojgoibelgleaa
