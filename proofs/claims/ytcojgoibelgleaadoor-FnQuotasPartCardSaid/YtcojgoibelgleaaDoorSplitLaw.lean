/- Plain: strings.Split at a slash is cutS. -/
import Derived.Test.YtcojgoibelgleaaDoorCut
import Derived.Lib.SplitLaws
import Derived.Lib.IndexBytes
import Derived.Lib.IndexLaws
namespace Go.Proofs.YtcojgoibelgleaaDoor
open Go.RowKit
set_option linter.unusedVariables false

/-- A slash as a text. -/
def slashS : ByteArray := ⟨#[47]⟩

theorem split_cut : ∀ (k : Nat) (s : ByteArray), Lib.countB s slashS = k → Lib.splitB slashS 0 k s = cutS s := by
  intro k
  induction k with
  | zero =>
    intro s hk
    rcases Lib.indexB_cases s slashS with hix | ⟨i, hix, hroom⟩
    · rw [Lib.splitB_zero]
      have hno : ∀ b ∈ bts s, b ≠ 47 := by
        intro b hb hc
        have h1 : Lib.indexByte (bts s) 47 = -1 := by rw [← Lib.index_one]; exact hix
        obtain ⟨j, hj, rfl⟩ := List.getElem_of_mem hb
        have := Lib.indexByte_none h1 j
        rw [List.getElem?_eq_getElem hj, hc] at this
        exact this rfl
      unfold cutS
      rw [cutL_none hno]
      simp [mk_bts]
    · have := Lib.countB_hit s slashS i (by decide) hix
      omega
  | succ k ih =>
    intro s hk
    rcases Lib.indexB_cases s slashS with hix | ⟨i, hix, hroom⟩
    · rw [Lib.countB_miss s slashS hix] at hk; omega
    · have hc := Lib.countB_hit s slashS i (by decide) hix
      have hsz : slashS.size = 1 := rfl
      rw [hsz] at hc hroom
      rw [Lib.splitB_hit slashS 0 k s i hix, hsz, ih _ (by omega)]
      have h1 : Lib.indexByte (bts s) 47 = (i : Int) := by rw [← Lib.index_one]; exact hix
      obtain ⟨e1, e2⟩ := Lib.indexByte_some h1
      have hil : i < (bts s).length := by rw [bts_length]; omega
      have e : bts s = (bts s).take i ++ 47 :: (bts s).drop (i + 1) := by
        have e3 : (bts s).drop i = 47 :: (bts s).drop (i + 1) := by
          rw [List.drop_eq_getElem_cons hil]
          rw [List.getElem?_eq_getElem hil] at e1
          injection e1 with e1
          rw [e1]
        rw [← e3, List.take_append_drop]
      have hno : ∀ b ∈ (bts s).take i, b ≠ 47 := by
        intro b hb hc
        subst hc
        obtain ⟨j, hj, hje⟩ := List.getElem_of_mem hb
        simp only [List.length_take] at hj
        have := e2 j (by omega)
        rw [List.getElem?_eq_getElem (by omega)] at this
        simp at hje
        exact this (congrArg some hje)
      have hcut : cutL (bts s) = (bts s).take i :: cutL ((bts s).drop (i + 1)) := by
        have := cutL_first (l := (bts s).drop (i + 1)) hno
        rwa [← e] at this
      unfold cutS
      rw [hcut, List.map_cons]
      have e4 : bts (s.extract (i + 1) s.size) = (bts s).drop (i + 1) := by
        rw [bts_extract, List.take_of_length_le (by rw [List.length_drop, bts_length]; omega)]
      have e5 : s.extract 0 (i + 0) = mkS ((bts s).take i) := by
        apply bts_inj
        rw [bts_mk, bts_extract]; simp
      rw [e4, e5]

theorem split_slash (s : ByteArray) : Lib.splitB slashS 0 (Lib.countB s slashS) s = cutS s := split_cut _ s rfl

theorem count_slash (s : ByteArray) : Lib.countB s slashS + 1 = (cutS s).length := by
  have := Lib.splitB_all slashS (by decide) 0 _ s rfl
  rw [split_slash] at this
  exact this.symm

end Go.Proofs.YtcojgoibelgleaaDoor
