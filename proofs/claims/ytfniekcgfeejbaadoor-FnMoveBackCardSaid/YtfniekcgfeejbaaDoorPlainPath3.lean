/- Plain: what the laws on paths need. -/
import Derived.Test.YtfniekcgfeejbaaDoorPathSpec2
namespace Go.Proofs.YtfniekcgfeejbaaDoor
open Go.RowKit
set_option linter.unusedVariables false

theorem joinL_snoc {ps : List (List UInt8)} (h : ps ≠ []) (p : List UInt8) : joinL (ps ++ [p]) = joinL ps ++ 47 :: p := by
  induction ps with
  | nil => exact absurd rfl h
  | cons q qs ih =>
    by_cases hq : qs = []
    · subst hq; rfl
    · rw [List.cons_append, joinL_cons _ (by simp), ih hq, joinL_cons _ hq]; simp

theorem cutS_at (s : ByteArray) (k : Nat) (h : k < (cutS s).length) : (cutS s).getD k ByteArray.empty ∈ cutS s := by
  rw [List.getD_eq_getElem?_getD, List.getElem?_eq_getElem h]; exact List.getElem_mem _

theorem cutS_len (s : ByteArray) : (cutS s).length = (cutL (bts s)).length := by simp [cutS]

theorem join_step {s t : ByteArray} {k : Nat} (hk1 : 1 ≤ k) (hk : k < (cutS s).length) (h : bts t = joinL ((cutL (bts s)).take k)) :
    bts (t ++ ⟨#[47]⟩ ++ (cutS s).getD k ByteArray.empty) = joinL ((cutL (bts s)).take (k + 1)) := by
  have hl : k < (cutL (bts s)).length := by rw [← cutS_len]; exact hk
  rw [bts_append, bts_append, h, cutS_get s k hk, List.take_succ_eq_append_getElem hl, joinL_snoc]
  · rw [List.getD_eq_getElem?_getD, List.getElem?_eq_getElem hl]
    show joinL _ ++ [47] ++ _ = _
    simp
  · intro hc
    have := congrArg List.length hc
    rw [List.length_take, List.length_nil] at this
    omega

theorem join_start {s : ByteArray} : bts ((cutS s).getD 0 ByteArray.empty) = joinL ((cutL (bts s)).take 1) := by
  have h1 : 0 < (cutL (bts s)).length := by
    cases hc : cutL (bts s) with
    | nil => exact absurd hc (cutL_ne _)
    | cons p ps => simp
  rw [cutS_get s 0 (by rw [cutS_len]; exact h1)]
  cases hc : cutL (bts s) with
  | nil => exact absurd hc (cutL_ne _)
  | cons p ps => simp [joinL]

theorem join_end {s t : ByteArray} (h : bts t = joinL ((cutL (bts s)).take (cutS s).length)) : bts t = bts s := by
  rw [h, cutS_len, List.take_length, join_cut]

theorem not_after (l : List UInt8) : pathV (l ++ [47]) = false := by
  cases h : pathV (l ++ [47]) with
  | false => rfl
  | true =>
    have hc : cutL (l ++ [47]) = cutL l ++ [[]] := cutL_append (a := l) (b := [])
    have := ((pathV_iff _).1 h).2 [] (by rw [hc]; simp)
    exact absurd this (by decide)

theorem not_ahead (l : List UInt8) : pathV (47 :: l) = false := by
  cases h : pathV (47 :: l) with
  | false => rfl
  | true =>
    have := ((pathV_iff _).1 h).2 [] (by rw [cutL_slash]; simp)
    exact absurd this (by decide)

theorem dirV_path {l : List UInt8} (h : pathV l = true) : dirV l = true := by simp [dirV, h]
theorem withinR_yes {l d : List UInt8} (h : pathV l = true) (hd : dirV d = true) (hw : withinL l d = true) : withinR l d = true := by simp [withinR, h, hd, hw]

theorem partsS_lenV {s : ByteArray} (h : pathV (bts s) = true) : (partsS s).length = (cutL (bts s)).length := by rw [partsS_yes h, cutS_len]

/-- The parent of a valid path. -/
theorem parent_law {s : ByteArray} (h : pathV (bts s) = true) :
    withinR (bts s) (parentR (bts s)).1 = true ∧ ((partsS (mkS (parentR (bts s)).1)).length : Int) = ((partsS s).length : Int) - 1 := by
  rw [parentR_yes h, partsS_lenV h]
  rcases parent_parts h with ⟨h1, h2, h3⟩ | ⟨h1, a, p, h2, h3, h4, h5, h6, h7⟩
  · rw [h3, h1]
    refine ⟨withinR_yes h (by simp [dirV]) (withinL_nil _), ?_⟩
    have : partsS (mkS []) = [] := partsS_no (by rw [bts_mk]; exact pathV_nil)
    rw [this]; rfl
  · rw [h4, h5]
    refine ⟨withinR_yes h (dirV_path h6) (withinL_iff.2 (.inr (.inr ⟨p, h2⟩))), ?_⟩
    rw [partsS_lenV (by rw [bts_mk]; exact h6), bts_mk]
    simp

theorem parent_not {s : ByteArray} (h : pathV (bts s) = true) (h0 : (parentR (bts s)).1 ≠ []) :
    withinR (parentR (bts s)).1 (bts s) = false ∧ pathV (parentR (bts s)).1 = true := by
  rw [parentR_yes h] at h0 ⊢
  rcases parent_parts h with ⟨h1, h2, h3⟩ | ⟨h1, a, p, h2, h3, h4, h5, h6, h7⟩
  · exact absurd h3 h0
  · simp only at h0 ⊢
    rw [h4] at h0 ⊢
    refine ⟨?_, h6⟩
    cases hw : withinR a (bts s) with
    | false => rfl
    | true =>
      simp only [withinR, Bool.and_eq_true] at hw
      have := withinL_len hw.2
      rw [h2] at this
      simp at this
      omega

/-- What is within has the same parts ahead. -/
theorem within_parts {l d : List UInt8} (h : withinR l d = true) : (partsR d).length ≤ (partsR l).length ∧ (partsR l).take (partsR d).length = partsR d := by
  simp only [withinR, Bool.and_eq_true] at h
  obtain ⟨⟨h1, h2⟩, h3⟩ := h
  simp only [partsR, h1, if_true]
  by_cases hd : pathV d = true
  · simp only [hd, if_true]
    rcases withinL_iff.1 h3 with e | e | ⟨r, e⟩
    · subst e; exact absurd hd (by decide)
    · subst e; exact ⟨Nat.le_refl _, List.take_length⟩
    · subst e
      rw [cutL_append]
      exact ⟨by simp, by simp⟩
  · rw [if_neg hd]
    exact ⟨Nat.zero_le _, rfl⟩

theorem partsS_lenR (s : ByteArray) : (partsS s).length = (partsR (bts s)).length := by simp [partsS]

theorem within_partsS {s d : ByteArray} (h : withinR (bts s) (bts d) = true) : (partsS d).length ≤ (partsS s).length ∧ (partsS s).take (partsS d).length = partsS d := by
  obtain ⟨h1, h2⟩ := within_parts h
  rw [partsS_lenR, partsS_lenR]
  refine ⟨h1, ?_⟩
  unfold partsS
  rw [← List.map_take, h2]

/-- What was moved. -/
theorem move_law {l f t : List UInt8} (h : (moveR l f t).2 = true) :
    pathV l = true ∧ pathV f = true ∧ pathV t = true ∧ pathV (moveR l f t).1 = true ∧ withinR (moveR l f t).1 t = true ∧
      ((cutL l).length : Int) - (cutL f).length = ((cutL (moveR l f t).1).length : Int) - (cutL t).length ∧
      moveR (moveR l f t).1 t f = (l, true) ∧ moveR l f f = (l, true) := by
  by_cases hc : pathV l = true ∧ pathV f = true ∧ pathV t = true ∧ withinL l f = true ∧ pathV (t ++ l.drop f.length) = true
  · have hc' := hc
    obtain ⟨h1, h2, h3, h4, h5⟩ := hc
    rw [moveR_yes hc']
    simp only
    have hf0 : f ≠ [] := by intro e; subst e; exact absurd h2 (by decide)
    have hsame : moveR l f f = (l, true) := by
      have e : f ++ l.drop f.length = l := by
        rcases withinL_iff.1 h4 with e | e | ⟨r, e⟩
        · exact absurd e hf0
        · subst e; simp
        · subst e; simp
      rw [moveR_yes ⟨h1, h2, h2, h4, by rw [e]; exact h1⟩, e]
    rcases withinL_iff.1 h4 with e | e | ⟨r, e⟩
    · exact absurd e hf0
    · subst e
      have e1 : t ++ l.drop l.length = t := by simp
      rw [e1] at h5 ⊢
      refine ⟨h1, h2, h3, h3, withinR_yes h3 (dirV_path h3) (withinL_self t), by omega, ?_, hsame⟩
      have e2 : l ++ t.drop t.length = l := by simp
      rw [moveR_yes ⟨h3, h3, h2, withinL_self t, by rw [e2]; exact h1⟩, e2]
    · subst e
      have e1 : t ++ (f ++ 47 :: r).drop f.length = t ++ 47 :: r := by simp
      rw [e1] at h5 ⊢
      have hwt : withinL (t ++ 47 :: r) t = true := withinL_iff.2 (.inr (.inr ⟨r, rfl⟩))
      refine ⟨h1, h2, h3, h5, withinR_yes h5 (dirV_path h3) hwt, ?_, ?_, hsame⟩
      · rw [cutL_append, cutL_append]; simp; omega
      · have e2 : f ++ (t ++ 47 :: r).drop t.length = f ++ 47 :: r := by simp
        rw [moveR_yes ⟨h5, h3, h2, hwt, by rw [e2]; exact h1⟩, e2]
  · rw [moveR_no hc] at h
    exact absurd h (by decide)

end Go.Proofs.YtfniekcgfeejbaaDoor
