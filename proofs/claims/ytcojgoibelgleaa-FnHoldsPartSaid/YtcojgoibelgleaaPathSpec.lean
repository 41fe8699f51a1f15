/- Contracts of the reference's functions on paths. -/
import Derived.Test.YtcojgoibelgleaaCut
import Derived.Test.YtcojgoibelgleaaPlainPath2
namespace Go.Proofs.Ytcojgoibelgleaa
open Go.RowKit
set_option linter.unusedVariables false

theorem cutS_get (s : ByteArray) (k : Nat) (h : k < (cutS s).length) : bts ((cutS s).getD k ByteArray.empty) = (cutL (bts s)).getD k [] := by
  unfold cutS at h ⊢
  have h' : k < (cutL (bts s)).length := by simpa using h
  simp [List.getD_eq_getElem?_getD, h', bts_mk]

theorem join_part : ∀ (ps : List (List UInt8)) (p : List UInt8), p ∈ ps → p.length ≤ (joinL ps).length := by
  intro ps
  induction ps with
  | nil => intro p hp; cases hp
  | cons q qs ih =>
    intro p hp
    by_cases hn : qs = []
    · subst hn; simp at hp; subst hp; simp [joinL]
    · rw [joinL_cons _ hn]
      simp only [List.length_append, List.length_cons]
      rcases List.mem_cons.1 hp with rfl | hp
      · omega
      · have := ih p hp; omega

theorem part_size {s x : ByteArray} (hm : x ∈ cutS s) : x.size ≤ s.size := by
  simp only [cutS, List.mem_map] at hm
  obtain ⟨p, hp, rfl⟩ := hm
  have h2 := join_part _ p hp
  rw [join_cut, bts_length] at h2
  rw [mkS_size]; exact h2

theorem pathV_not {l : List UInt8} {k : Nat} (hk : k < (cutL l).length) (h : partV ((cutL l).getD k []) = false) : pathV l = false := by
  cases hc : pathV l with
  | false => rfl
  | true =>
    have := ((pathV_iff l).1 hc).2 ((cutL l).getD k []) (by
      have e : (cutL l).getD k [] = (cutL l)[k] := by simp [List.getD_eq_getElem?_getD, hk]
      rw [e]; exact List.getElem_mem hk)
    rw [h] at this; cases this

theorem pathV_all {l : List UInt8} (h : ∀ j, j < (cutL l).length → partV ((cutL l).getD j []) = true) : pathV l = decide ((cutL l).length ≤ 4) := by
  unfold pathV
  have : (cutL l).all partV = true := by
    rw [List.all_eq_true]
    intro p hp
    obtain ⟨j, hj, rfl⟩ := List.getElem_of_mem hp
    have := h j hj
    simpa [List.getD_eq_getElem?_getD, hj] using this
  rw [this, Bool.and_true]

/-- What PathParts answers, as strings. -/
def partsS (s : ByteArray) : List ByteArray := (partsR (bts s)).map mkS

theorem partsS_yes {s : ByteArray} (h : pathV (bts s) = true) : partsS s = cutS s := by simp [partsS, partsR, h, cutS]
theorem partsS_no {s : ByteArray} (h : pathV (bts s) = false) : partsS s = [] := by simp [partsS, partsR, h]

end Go.Proofs.Ytcojgoibelgleaa
