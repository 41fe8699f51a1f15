/- Plain law: numbers tell the runs of a block just if they are what the block that they tell is packed into. -/
import Derived.Test.YtbegmliglabpfaaReadRuns
namespace Go.Proofs.Ytbegmliglabpfaa
set_option linter.unusedVariables false

theorem many_cons (p : Int × Int) (ps : List (Int × Int)) : many (p :: ps) = p.1 + many ps := by simp [many]

theorem chk_iff (ps : List (Int × Int)) : ∀ left last : Int, 0 ≤ left → (chk left last ps = true ↔
    (∀ p ∈ ps, 1 ≤ p.1 ∧ 0 ≤ p.2 ∧ p.2 ≤ 255) ∧ (ps = [] ∨ (ps.getD 0 (0, 0)).2 ≠ last) ∧ Apart ps ∧ many ps ≤ left) := by
  induction ps with
  | nil => intro left last h0; simp [chk, Apart, many, h0]
  | cons p t ih =>
    intro left last h0
    simp only [chk, Bool.and_eq_true, decide_eq_true_eq, many_cons]
    constructor
    · rintro ⟨⟨⟨⟨⟨h1, h2⟩, h3⟩, h4⟩, h5⟩, h6⟩
      obtain ⟨g1, g2, g3, g4⟩ := (ih (left - p.1) p.2 (by omega)).1 h6
      refine ⟨fun q hq => ?_, .inr (by simpa using h5), ?_, by omega⟩
      · rcases List.mem_cons.1 hq with rfl | hq
        · exact ⟨h1, h3, h4⟩
        · exact g1 q hq
      · intro j hj
        cases j with
        | zero =>
          rcases g2 with g2 | g2
          · subst g2; simp at hj
          · simpa [List.getD_eq_getElem?_getD] using fun e => g2 (by simpa [List.getD_eq_getElem?_getD] using e.symm)
        | succ j =>
          have := g3 j (by simpa using hj)
          simpa [List.getD_eq_getElem?_getD] using this
    · rintro ⟨g1, g2, g3, g4⟩
      have hp := g1 p List.mem_cons_self
      have hpos : 0 ≤ many t := by
        have : ∀ l : List (Int × Int), (∀ q ∈ l, 1 ≤ q.1) → 0 ≤ many l := by
          intro l hl
          rw [many_expand l hl]; omega
        exact this t (fun q hq => (g1 q (List.mem_cons_of_mem _ hq)).1)
      refine ⟨⟨⟨⟨⟨hp.1, by omega⟩, hp.2.1⟩, hp.2.2⟩, ?_⟩, ?_⟩
      · rcases g2 with g2 | g2
        · cases g2
        · simpa using g2
      · refine (ih (left - p.1) p.2 (by omega)).2 ⟨fun q hq => g1 q (List.mem_cons_of_mem _ hq), ?_, ?_, by omega⟩
        · cases t with
          | nil => exact .inl rfl
          | cons q t =>
            right
            have := g3 0 (by simp)
            simpa [List.getD_eq_getElem?_getD] using fun e => this (by simpa [List.getD_eq_getElem?_getD] using e.symm)
        · intro j hj
          have := g3 (j + 1) (by simpa using hj)
          simpa [List.getD_eq_getElem?_getD] using this

/-- What the reference unpacks: at most eight bytes a run. -/
def cnt (m : Int) : Nat := (min m 8).toNat
def exp8 (ps : List (Int × Int)) : List Int := ps.flatMap fun p => List.replicate (cnt p.1) p.2
def unOK (rs : List Int) : Bool := blockV (exp8 (pairsOf rs)) && decide (packL (exp8 (pairsOf rs)) = rs)
def unR (rs : List Int) : List Int := if unOK rs = true then exp8 (pairsOf rs) else []

theorem exp8_eq (ps : List (Int × Int)) (h : ∀ p ∈ ps, p.1 ≤ 8) : exp8 ps = expandP ps := by
  induction ps with
  | nil => rfl
  | cons p t ih =>
    have h1 := h p List.mem_cons_self
    have h2 := ih (fun q hq => h q (List.mem_cons_of_mem _ hq))
    simp only [exp8, expandP, List.flatMap_cons] at *
    rw [h2, show cnt p.1 = p.1.toNat by unfold cnt; omega]

theorem flat_pairs (rs : List Int) (h : rs.length % 2 = 0) : flatP (pairsOf rs) = rs := by
  apply List.ext_getElem?
  intro i
  have hl : (flatP (pairsOf rs)).length = rs.length := by rw [flatP_length, pairsOf_length]; omega
  by_cases hi : i < rs.length
  · have e1 : (flatP (pairsOf rs))[i]? = some ((flatP (pairsOf rs)).getD i 0) := by simp [List.getD_eq_getElem?_getD, hl, hi]
    have e2 : rs[i]? = some (rs.getD i 0) := by simp [List.getD_eq_getElem?_getD, hi]
    rw [e1, e2]
    rcases Nat.mod_two_eq_zero_or_one i with h0 | h0
    · obtain ⟨k, rfl⟩ : ∃ k, i = 2 * k := ⟨i / 2, by omega⟩
      rw [(flatP_even _ k).1, pairsOf_getD rs k (by omega)]
    · obtain ⟨k, rfl⟩ : ∃ k, i = 2 * k + 1 := ⟨i / 2, by omega⟩
      rw [(flatP_even _ k).2, pairsOf_getD rs k (by omega)]
  · rw [List.getElem?_eq_none (by omega), List.getElem?_eq_none (by omega)]

theorem pairs_flat (ps : List (Int × Int)) : pairsOf (flatP ps) = ps := by
  have hl : (pairsOf (flatP ps)).length = ps.length := by rw [pairsOf_length, flatP_length]; omega
  apply List.ext_getElem?
  intro k
  by_cases hk : k < ps.length
  · have e1 : (pairsOf (flatP ps))[k]? = some ((pairsOf (flatP ps)).getD k (0, 0)) := by simp [List.getD_eq_getElem?_getD, hl, hk]
    have e2 : ps[k]? = some (ps.getD k (0, 0)) := by simp [List.getD_eq_getElem?_getD, hk]
    rw [e1, e2, pairsOf_getD _ k (by rw [flatP_length]; omega), (flatP_even ps k).1, (flatP_even ps k).2]
  · rw [List.getElem?_eq_none (by omega), List.getElem?_eq_none (by omega)]

theorem runsP_mem {zs : List Int} : ∀ p ∈ runsP zs, p.2 ∈ zs := by
  suffices h : ∀ (l : List Int) (ps : List (Int × Int)) (S : List Int), (∀ p ∈ ps, p.2 ∈ S) → (∀ z ∈ l, z ∈ S) → ∀ p ∈ l.foldl pushRun ps, p.2 ∈ S from
    h zs [] zs (by intro p hp; cases hp) (fun z hz => hz)
  intro l
  induction l with
  | nil => intro ps S h _ p hp; exact h p hp
  | cons x l ih =>
    intro ps S h hl
    refine ih _ S (fun p hp => ?_) (fun z hz => hl z (List.mem_cons_of_mem _ hz))
    unfold pushRun at hp
    split at hp
    · rcases List.mem_or_eq_of_mem_set hp with h' | rfl
      · exact h p h'
      · exact hl x List.mem_cons_self
    · rcases List.mem_append.1 hp with h' | h'
      · exact h p h'
      · simp at h'; subst h'; exact hl x List.mem_cons_self

theorem readOK_facts {rs : List Int} (h : readOK rs = true) :
    rs.length ≠ 0 ∧ rs.length % 2 = 0 ∧ (∀ p ∈ pairsOf rs, 1 ≤ p.1 ∧ p.1 ≤ 8 ∧ 0 ≤ p.2 ∧ p.2 ≤ 255) ∧ Apart (pairsOf rs) ∧ many (pairsOf rs) ≤ 8 := by
  simp only [readOK, Bool.and_eq_true, decide_eq_true_eq] at h
  obtain ⟨⟨h1, h2, h3⟩, h4⟩ := h
  obtain ⟨g1, g2, g3, g4⟩ := (chk_iff _ 8 (-1) (by omega)).1 h4
  refine ⟨h1, h2, fun p hp => ?_, g3, g4⟩
  have hp1 := g1 p hp
  refine ⟨hp1.1, ?_, hp1.2⟩
  have hm : p.1 ≤ many (pairsOf rs) := by
    clear g2 g3 g4 h1 h2 h3 h4
    generalize pairsOf rs = l at *
    induction l with
    | nil => cases hp
    | cons q l ih =>
      rw [many_cons]
      have hl : 0 ≤ many l := by rw [many_expand l (fun r hr => (g1 r (List.mem_cons_of_mem _ hr)).1)]; omega
      rcases List.mem_cons.1 hp with rfl | hp
      · omega
      · have := ih (fun r hr => g1 r (List.mem_cons_of_mem _ hr)) hp
        have := (g1 q List.mem_cons_self).1
        omega
  omega

theorem allB_of {zs : List Int} (h : ∀ z ∈ zs, 0 ≤ z ∧ z ≤ 255) : allB zs = true := by
  simp only [allB, List.all_eq_true]
  exact fun z hz => inB_byte.2 (h z hz)

theorem un_iff (rs : List Int) : readOK rs = unOK rs := by
  rw [Bool.eq_iff_iff]
  constructor
  · intro h
    obtain ⟨h1, h2, h3, h4, h5⟩ := readOK_facts h
    have he : exp8 (pairsOf rs) = expandP (pairsOf rs) := exp8_eq _ (fun p hp => (h3 p hp).2.1)
    have hm := many_expand (pairsOf rs) (fun p hp => (h3 p hp).1)
    have hpos : 0 < (expandP (pairsOf rs)).length := by
      have hl := pairsOf_length rs
      match hp : pairsOf rs, hl with
      | [], hl => simp at hl; omega
      | p :: t, _ =>
        have := h3 p (by rw [hp]; simp)
        simp only [expandP, List.flatMap_cons, List.length_append, List.length_replicate]
        omega
    have ha : allB (expandP (pairsOf rs)) = true := allB_of (fun z hz => by
      simp only [expandP, List.mem_flatMap] at hz
      obtain ⟨p, hp, hz⟩ := hz
      rw [List.eq_of_mem_replicate hz]
      exact (h3 p hp).2.2)
    simp only [unOK, he, Bool.and_eq_true, decide_eq_true_eq]
    refine ⟨?_, ?_⟩
    · simp only [blockV, inB, ha, Bool.true_and, Bool.and_eq_true, decide_eq_true_eq]
      omega
    · unfold packL
      rw [runsP_expand _ (fun p hp => (h3 p hp).1) h4, flat_pairs rs h2]
  · intro h
    simp only [unOK, Bool.and_eq_true, decide_eq_true_eq] at h
    obtain ⟨hb, hp⟩ := h
    generalize exp8 (pairsOf rs) = zs at *
    subst hp
    obtain ⟨ha, h1, h8⟩ := blockV_parts hb
    have hle := runsP_le zs
    have hpos : 0 < (runsP zs).length := by
      have := runsP_pos (zs := zs) (k := zs.length - 1) (by omega)
      rwa [List.take_of_length_le (by omega)] at this
    have hfl := flatP_length (runsP zs)
    unfold packL
    simp only [readOK, Bool.and_eq_true, decide_eq_true_eq, pairs_flat]
    refine ⟨by omega, (chk_iff _ 8 (-1) (by omega)).2 ⟨fun p hp => ?_, .inr ?_, apart_runsP zs, by rw [many_runsP]; omega⟩⟩
    · have hmem := runsP_mem p hp
      simp only [allB, List.all_eq_true] at ha
      have := inB_byte.1 (ha _ hmem)
      exact ⟨(runsP_bd zs p hp).1, this⟩
    · have e : (runsP zs).getD 0 (0, 0) = (runsP zs)[0] := by simp [List.getD_eq_getElem?_getD, hpos]
      have hmem := runsP_mem _ (List.getElem_mem hpos)
      simp only [allB, List.all_eq_true] at ha
      have := inB_byte.1 (ha _ hmem)
      rw [e]
      omega

end Go.Proofs.Ytbegmliglabpfaa
