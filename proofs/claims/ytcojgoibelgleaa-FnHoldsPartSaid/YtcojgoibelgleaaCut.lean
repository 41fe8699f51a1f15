/- Contract of l1Cut: a text cut at its slashes. -/
import Derived.Test.YtcojgoibelgleaaWord
namespace Go.Proofs.Ytcojgoibelgleaa
open Go.RowKit
set_option linter.unusedVariables false

/-- A text cut at its slashes, as strings. -/
def cutS (s : ByteArray) : List ByteArray := (cutL (bts s)).map mkS

theorem map_mk_bts (zs : List ByteArray) : (zs.map bts).map mkS = zs := by
  rw [List.map_map]
  have : (mkS ∘ bts) = id := by funext s; exact mk_bts s
  rw [this, List.map_id]

theorem map_bts_mk (ls : List (List UInt8)) : (ls.map mkS).map bts = ls := by
  rw [List.map_map]
  have : (bts ∘ mkS) = id := by funext s; exact bts_mk s
  rw [this, List.map_id]

theorem cutL_length (l : List UInt8) : (cutL l).length ≤ l.length + 1 := by
  induction l with
  | nil => simp [cutL]
  | cons b l ih =>
    by_cases hb : b = 47
    · subst hb; rw [cutL_slash]; simp; exact ih
    · obtain ⟨p, ps, e1, e2⟩ := cutL_other l hb
      rw [e2]; rw [e1] at ih; simp at ih ⊢; omega

theorem cutS_length (s : ByteArray) : (cutS s).length ≤ s.size + 1 := by
  have := cutL_length (bts s)
  rw [bts_length] at this
  simpa [cutS] using this

/-- What l1Cut has done when it stands at k. -/
def CutAt (s : ByteArray) (zs : List ByteArray) (F k : Nat) : Prop :=
  cutL (bts s) = zs.map bts ++ cutL ((bts s).drop F) ∧ F ≤ k ∧ (∀ j, F ≤ j → j < k → (bts s)[j]? ≠ some 47) ∧ zs.length ≤ F

theorem CutAt.start (s : ByteArray) : CutAt s [] 0 0 := ⟨by simp, Nat.le_refl _, fun j h1 h2 => by omega, by simp⟩

theorem CutAt.step {s : ByteArray} {zs : List ByteArray} {F k : Nat} (h : CutAt s zs F k) (hne : (bts s)[k]? ≠ some 47) : CutAt s zs F (k + 1) := by
  obtain ⟨h1, h2, h3, h4⟩ := h
  refine ⟨h1, by omega, fun j a b => ?_, h4⟩
  rcases Nat.lt_or_ge j k with h | h
  · exact h3 j a h
  · obtain rfl : j = k := by omega
    exact hne

theorem mem_take_drop {l : List UInt8} {F m : Nat} {b : UInt8} (h : b ∈ (l.drop F).take m) : ∃ j, F ≤ j ∧ j < F + m ∧ l[j]? = some b := by
  obtain ⟨i, hi, rfl⟩ := List.getElem_of_mem h
  simp only [List.length_take, List.length_drop] at hi
  refine ⟨F + i, by omega, by omega, ?_⟩
  rw [List.getElem?_eq_getElem (by omega)]
  simp

theorem CutAt.slash {s : ByteArray} {zs : List ByteArray} {F k : Nat} (h : CutAt s zs F k) (hk : k < s.size) (he : (bts s)[k]? = some 47) : CutAt s (zs ++ [s.extract F k]) (k + 1) (k + 1) := by
  obtain ⟨h1, h2, h3, h4⟩ := h
  have hl : k < (bts s).length := by rw [bts_length]; exact hk
  refine ⟨?_, Nat.le_refl _, fun j a b => by omega, by simp; omega⟩
  have e : (bts s).drop F = ((bts s).drop F).take (k - F) ++ 47 :: (bts s).drop (k + 1) := by
    have e1 : ((bts s).drop F).drop (k - F) = (bts s).drop k := by rw [List.drop_drop]; congr 1; omega
    have e2 : (bts s).drop k = 47 :: (bts s).drop (k + 1) := by
      rw [List.drop_eq_getElem_cons hl]
      rw [List.getElem?_eq_getElem hl] at he
      injection he with he
      rw [he]
    rw [← e2, ← e1, List.take_append_drop]
  have hno : ∀ b ∈ ((bts s).drop F).take (k - F), b ≠ 47 := by
    intro b hb hc
    obtain ⟨j, j1, j2, j3⟩ := mem_take_drop hb
    subst hc
    exact h3 j j1 (by omega) j3
  rw [h1, e, cutL_first hno]
  simp [bts_extract]

theorem CutAt.end_ {s : ByteArray} {zs : List ByteArray} {F : Nat} (h : CutAt s zs F s.size) : cutS s = zs ++ [s.extract F s.size] := by
  obtain ⟨h1, h2, h3, h4⟩ := h
  have hno : ∀ b ∈ (bts s).drop F, b ≠ 47 := by
    intro b hb hc
    subst hc
    have hb' : (47 : UInt8) ∈ ((bts s).drop F).take ((bts s).length - F) := by rw [List.take_of_length_le (by rw [List.length_drop]; omega)]; exact hb
    obtain ⟨j, j1, j2, j3⟩ := mem_take_drop hb'
    exact h3 j j1 (by rw [bts_length] at j2; omega) j3
  have e : bts (s.extract F s.size) = (bts s).drop F := by rw [bts_extract, List.take_of_length_le (by rw [List.length_drop, bts_length]; omega)]
  unfold cutS
  rw [h1, cutL_none hno, List.map_append, map_mk_bts, ← e]
  simp [mk_bts]

end Go.Proofs.Ytcojgoibelgleaa
