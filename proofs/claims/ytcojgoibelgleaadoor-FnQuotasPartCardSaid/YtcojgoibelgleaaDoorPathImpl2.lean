/- Contracts of the program's PathValid, PathParts, PathParent, PathWithin, PathMove. -/
import Derived.Test.YtcojgoibelgleaaDoorPathImpl
import Derived.Lib.LastIndexByte
import Derived.Lib.Strings
namespace Go.Proofs.YtcojgoibelgleaaDoor
open Go.RowKit
set_option linter.unusedVariables false

set_option maxHeartbeats 400000 in
theorem implPathValid_any (s : ByteArray) (w : World) (hm : MLen w) (hs : s.size ≤ 1073741824) :
    Calls Tryd.prog 22 #[.string s] w (RetB w (.bool (pathV (bts s)))) := by
  go_enter Tryd.func22, Tryd.ntmps22
  go_wp2_with fail
  with_reducible refine (implValid_any s _ hm hs).mono ?_
  rintro e w1 ⟨rfl, hb1⟩
  go_wp2
  go_ret
  exact ⟨rfl, hb1⟩

/-- The library's last place of a slash is ours. -/
theorem last_eq (s : ByteArray) : Lib.lastIndexByte s 47 = lastL (bts s) := by
  have hget : ∀ j, j < s.size → ((s.data[j]!).toNat : Int) = ((bts s)[j]?.getD 0).toNat := by
    intro j hj
    have hj' : j < s.data.size := hj
    rw [getElem!_pos s.data j hj', bts_get? s j hj]
    rfl
  have h47 : (47 : UInt8).toNat = 47 := rfl
  have hs := Lib.lastIdx_spec s 47 s.size
  unfold Lib.lastIndexByte
  rcases lastL_cases (bts s) with ⟨e, hno⟩ | ⟨a, p, e1, e2, e3⟩
  · rw [e]
    rcases hs with ⟨h, _⟩ | ⟨i, hi, h1, h2, _⟩
    · exact h
    · exfalso
      rw [hget i hi] at h2
      have hil : i < (bts s).length := by rw [bts_length]; exact hi
      rw [List.getElem?_eq_getElem hil] at h2
      simp only [Option.getD_some] at h2
      exact hno _ (List.getElem_mem hil) (UInt8.toNat_inj.1 (by rw [h47]; omega))
  · rw [e2]
    have hlen : s.size = a.length + 1 + p.length := by
      have := congrArg List.length e1
      rw [bts_length] at this
      simp at this; omega
    have hat : (bts s)[a.length]? = some 47 := by rw [e1]; simp
    rcases hs with ⟨_, hn⟩ | ⟨i, hi, h1, h2, h3⟩
    · exfalso
      have := hn a.length (by omega)
      rw [hget _ (by omega), hat] at this
      exact this rfl
    · rw [h1]
      rcases Nat.lt_trichotomy i a.length with h | h | h
      · exfalso
        have := h3 a.length h (by omega)
        rw [hget _ (by omega), hat] at this
        exact this rfl
      · rw [h]
      · exfalso
        rw [hget i hi] at h2
        obtain ⟨m, rfl⟩ : ∃ m, i = a.length + (m + 1) := ⟨i - a.length - 1, by omega⟩
        have : (bts s)[a.length + (m + 1)]? = p[m]? := by
          rw [e1, List.getElem?_append_right (by omega), Nat.add_sub_cancel_left, List.getElem?_cons_succ]
        have hip : m < p.length := by omega
        rw [this, List.getElem?_eq_getElem hip] at h2
        simp only [Option.getD_some] at h2
        exact e3 _ (List.getElem_mem hip) (UInt8.toNat_inj.1 (by rw [h47]; omega))

theorem withinR_bad {l d : List UInt8} (h : pathV l = false) : withinR l d = false := by simp [withinR, h]
theorem withinR_same {l d : List UInt8} (h : pathV l = true) (h1 : d = [] ∨ l = d) : withinR l d = true := by
  rcases h1 with rfl | rfl
  · simp [withinR, h, dirV, withinL_nil]
  · simp [withinR, h, dirV, withinL_self]
theorem withinR_other {l d : List UInt8} (h : pathV l = true) (h0 : d ≠ []) (h1 : l ≠ d) : withinR l d = (pathV d && (d ++ [47]).isPrefixOf l) := by
  rw [withinR, h, Bool.true_and, withinL_prefix h0 h1]
  simp [dirV, h0]

theorem slash_bts (d : ByteArray) : bts (d ++ ⟨#[47]⟩) = bts d ++ [47] := by rw [bts_append]; rfl

theorem withinR_L {l f : List UInt8} (h : pathV l = true) (hf : pathV f = true) : withinR l f = withinL l f := by
  simp [withinR, h, dirV, hf]

end Go.Proofs.YtcojgoibelgleaaDoor
