/- Plain laws of packing: the runs of bytes are as long as can be, are as many as the bytes, and are unpacked into the bytes; runs that could be those of a block are packed so. -/
import Derived.Test.YtbegmliglabpfaaPackSpec
namespace Go.Proofs.Ytbegmliglabpfaa
set_option linter.unusedVariables false

def expandP (ps : List (Int × Int)) : List Int := ps.flatMap fun p => List.replicate p.1.toNat p.2

theorem expandP_append (ps qs : List (Int × Int)) : expandP (ps ++ qs) = expandP ps ++ expandP qs := by simp [expandP]

theorem pushRun_expand {ps : List (Int × Int)} (h : ∀ p ∈ ps, 1 ≤ p.1) (x : Int) : expandP (pushRun ps x) = expandP ps ++ [x] := by
  unfold pushRun
  split
  · rename_i hc
    obtain ⟨init, e, hl⟩ := split_last ps (0, 0) hc.1
    generalize hq : ps.getD (ps.length - 1) (0, 0) = q at *
    have hq1 : 1 ≤ q.1 := h q (by rw [e]; simp)
    rw [← hl, e, List.set_append_right _ _ (Nat.le_refl _), expandP_append, expandP_append]
    simp only [Nat.sub_self, List.set_cons_zero, expandP, List.flatMap_cons, List.flatMap_nil, List.append_nil, List.append_assoc]
    rw [show (q.1 + 1).toNat = q.1.toNat + 1 by omega, List.replicate_succ', ← hc.2]
  · rw [expandP_append]
    simp [expandP]

/-- What was packed is unpacked. -/
theorem expand_runsP (zs : List Int) : expandP (runsP zs) = zs := by
  suffices h : ∀ k, k ≤ zs.length → expandP (runsP (zs.take k)) = zs.take k by
    have := h zs.length (Nat.le_refl _)
    rwa [List.take_of_length_le (Nat.le_refl _)] at this
  intro k
  induction k with
  | zero => intro _; simp [runsP, expandP]
  | succ k ih =>
    intro hk
    rw [runsP_succ (by omega), pushRun_expand (fun p hp => (runsP_bd _ p hp).1), ih (by omega), List.take_succ_eq_append_getElem (by omega)]
    simp [List.getD, show k < zs.length by omega]

/-- Neighbours among the runs differ. -/
def Apart (ps : List (Int × Int)) : Prop := ∀ j, j + 1 < ps.length → (ps.getD j (0, 0)).2 ≠ (ps.getD (j + 1) (0, 0)).2

theorem apart_push {ps : List (Int × Int)} (h : Apart ps) (x : Int) : Apart (pushRun ps x) := by
  unfold pushRun
  split
  · rename_i hc
    intro j hj
    rw [List.length_set] at hj
    have h1 := h j hj
    have e : ∀ i, i < ps.length → ((ps.set (ps.length - 1) ((ps.getD (ps.length - 1) (0, 0)).1 + 1, x)).getD i (0, 0)).2 = (ps.getD i (0, 0)).2 := by
      intro i hi
      by_cases hl : i = ps.length - 1
      · subst hl
        rw [getD_set_same _ _ _ _ hi]
        exact hc.2.symm
      · have : ps.length - 1 ≠ i := fun e => hl e.symm
        simp [List.getD_eq_getElem?_getD, this]
    rw [e j (by omega), e (j + 1) hj]
    exact h1
  · rename_i hc
    intro j hj
    simp only [List.length_append, List.length_cons, List.length_nil] at hj
    by_cases hl : j + 1 < ps.length
    · have h1 := h j hl
      simpa [List.getD_eq_getElem?_getD, List.getElem?_append, hl, show j < ps.length by omega] using h1
    · have hjl : j = ps.length - 1 := by omega
      have hne : ps ≠ [] := by intro e; subst e; simp at hj
      have h2 : ¬ (ps.getD (ps.length - 1) (0, 0)).2 = x := fun e => hc ⟨hne, e⟩
      subst hjl
      have e3 : ps.length - 1 + 1 = ps.length := by omega
      rw [e3]
      simpa [List.getD_eq_getElem?_getD, List.getElem?_append, show ps.length - 1 < ps.length by omega] using h2

theorem apart_runsP (zs : List Int) : Apart (runsP zs) := by
  suffices h : ∀ (l : List Int) (ps : List (Int × Int)), Apart ps → Apart (l.foldl pushRun ps) from h zs [] (by intro j hj; simp at hj)
  intro l
  induction l with
  | nil => intro ps h; exact h
  | cons x l ih => intro ps h; exact ih _ (apart_push h x)

theorem push_same (init : List (Int × Int)) (v : Int) (h : init = [] ∨ (init.getD (init.length - 1) (0, 0)).2 ≠ v) (k : Nat) :
    (List.replicate (k + 1) v).foldl pushRun init = init ++ [(((k + 1 : Nat) : Int), v)] := by
  induction k with
  | zero =>
    simp only [Nat.zero_add, List.replicate_one, List.foldl_cons, List.foldl_nil]
    unfold pushRun
    rw [if_neg (fun hc => by rcases h with h | h; exact hc.1 h; exact h hc.2)]
    rfl
  | succ k ih =>
    rw [List.replicate_succ', List.foldl_append, ih]
    simp only [List.foldl_cons, List.foldl_nil]
    unfold pushRun
    rw [if_pos ⟨by simp, by simp [List.getD_eq_getElem?_getD]⟩]
    simp only [List.length_append, List.length_cons, List.length_nil, Nat.add_sub_cancel]
    rw [List.set_append_right _ _ (Nat.le_refl _)]
    simp [List.getD_eq_getElem?_getD]

/-- Runs that are as long as can be are the runs of what they are unpacked into. -/
theorem runsP_expand (ps : List (Int × Int)) : (∀ p ∈ ps, 1 ≤ p.1) → Apart ps → runsP (expandP ps) = ps := by
  suffices h : ∀ n, ∀ ps : List (Int × Int), ps.length = n → (∀ p ∈ ps, 1 ≤ p.1) → Apart ps → runsP (expandP ps) = ps from h ps.length ps rfl
  intro n
  induction n with
  | zero =>
    intro ps hl _ _
    have : ps = [] := List.eq_nil_of_length_eq_zero hl
    subst this
    rfl
  | succ n ih =>
    intro ps hl hp ha
    obtain ⟨init, e, hil⟩ := split_last ps (0, 0) (by intro e; subst e; simp at hl)
    generalize hq : ps.getD (ps.length - 1) (0, 0) = q at *
    have hin : init.length = n := by omega
    have hinit : runsP (expandP init) = init := ih init hin (fun p hp' => hp p (by rw [e]; simp [hp'])) (by
      intro j hj
      have := ha j (by omega)
      rw [e] at this
      simpa [List.getD_eq_getElem?_getD, List.getElem?_append, hj, show j < init.length by omega] using this)
    have hq1 : 1 ≤ q.1 := hp q (by rw [e]; simp)
    obtain ⟨k, hk⟩ : ∃ k : Nat, q.1 = ((k + 1 : Nat) : Int) := ⟨q.1.toNat - 1, by omega⟩
    have hlast : init = [] ∨ (init.getD (init.length - 1) (0, 0)).2 ≠ q.2 := by
      by_cases h0 : init = []
      · exact .inl h0
      · right
        have hpos : 0 < init.length := List.length_pos_iff.2 h0
        have := ha (init.length - 1) (by rw [e]; simp; omega)
        rw [e, show init.length - 1 + 1 = init.length by omega] at this
        simpa [List.getD_eq_getElem?_getD, List.getElem?_append, show init.length - 1 < init.length by omega] using this
    rw [e, expandP_append]
    have h1 : expandP [q] = List.replicate (k + 1) q.2 := by simp [expandP, hk]
    rw [h1]
    unfold runsP at hinit ⊢
    rw [List.foldl_append, hinit, push_same init q.2 hlast k, ← hk]

theorem flatP_even (ps : List (Int × Int)) (j : Nat) : (flatP ps).getD (2 * j) 0 = (ps.getD j (0, 0)).1 ∧ (flatP ps).getD (2 * j + 1) 0 = (ps.getD j (0, 0)).2 := by
  induction ps generalizing j with
  | nil => simp [flatP]
  | cons p ps ih =>
    cases j with
    | zero => simp [flatP, List.getD_eq_getElem?_getD]
    | succ j =>
      have := ih j
      simp only [flatP, List.flatMap_cons] at *
      rw [show 2 * (j + 1) = 2 * j + 1 + 1 by omega, show 2 * j + 1 + 1 + 1 = (2 * j + 1) + 1 + 1 by omega]
      simpa [List.getD_eq_getElem?_getD] using this

/-- How many bytes runs have. -/
def many (ps : List (Int × Int)) : Int := (ps.map (·.1)).sum

theorem many_append (ps qs : List (Int × Int)) : many (ps ++ qs) = many ps + many qs := by simp [many]

theorem many_expand (ps : List (Int × Int)) (h : ∀ p ∈ ps, 1 ≤ p.1) : many ps = ((expandP ps).length : Int) := by
  induction ps with
  | nil => rfl
  | cons p ps ih =>
    have h1 := h p List.mem_cons_self
    have h2 := ih (fun q hq => h q (List.mem_cons_of_mem _ hq))
    simp only [many, List.map_cons, List.sum_cons, expandP, List.flatMap_cons, List.length_append, List.length_replicate] at *
    omega

theorem many_runsP (zs : List Int) : many (runsP zs) = (zs.length : Int) := by
  rw [many_expand _ (fun p hp => (runsP_bd zs p hp).1), expand_runsP]

theorem many_take_succ {ps : List (Int × Int)} {k : Nat} (h : k < ps.length) : many (ps.take (k + 1)) = many (ps.take k) + (ps.getD k (0, 0)).1 := by
  have e : ps.getD k (0, 0) = ps[k] := by simp [List.getD_eq_getElem?_getD, h]
  rw [List.take_succ_eq_append_getElem h, many_append, e]
  simp [many]

theorem packL_replicate (n : Nat) (v : Int) (h : 1 ≤ n) : packL (List.replicate n v) = [(n : Int), v] := by
  obtain ⟨k, rfl⟩ : ∃ k, n = k + 1 := ⟨n - 1, by omega⟩
  unfold packL runsP
  rw [push_same [] v (.inl rfl) k]
  simp [flatP]

end Go.Proofs.Ytbegmliglabpfaa
