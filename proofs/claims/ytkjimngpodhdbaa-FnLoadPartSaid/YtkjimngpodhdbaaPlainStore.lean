/- Plain: when a store is valid. -/
import Derived.Test.YtkjimngpodhdbaaPlainChain
import Derived.Test.YtkjimngpodhdbaaValid
namespace Go.Proofs.Ytkjimngpodhdbaa
set_option linter.unusedVariables false

/-- A block of a store is valid. -/
def okH (v : Int × List Int × Int) : Bool := inB v.1 1 99 && blockV v.2.1 && inB v.2.2 1 999
/-- A block is ahead of another one. -/
def befH (x y : Int × List Int × Int) : Bool := decide (x.1 < y.1)
/-- No two blocks are equal. -/
def neH (x y : Int × List Int × Int) : Prop := x.2.1 ≠ y.2.1
/-- A store is valid. -/
def storeV (vs : List (Int × List Int × Int)) : Bool := chainV okH befH 16 vs && vs.all fun x => decide ((vs.filter fun y => decide (y.2.1 = x.2.1)).length ≤ 1)

theorem befH_irrefl (x : Int × List Int × Int) : befH x x = false := by simp [befH]
theorem befH_trans (x y z : Int × List Int × Int) (h1 : befH x y = true) (h2 : befH y z = true) : befH x z = true := by
  simp only [befH, decide_eq_true_eq] at *; omega

theorem filter_le_one {α : Type} {p : α → Bool} {xs : List α} : (xs.filter p).length ≤ 1 ↔ ∀ i j (hi : i < xs.length) (hj : j < xs.length), i < j → ¬ (p xs[i] = true ∧ p xs[j] = true) := by
  induction xs with
  | nil => simp
  | cons x xs ih =>
    constructor
    · intro h i j hi hj hij ⟨h1, h2⟩
      cases j with
      | zero => omega
      | succ j =>
        simp only [List.length_cons, Nat.add_lt_add_iff_right] at hj
        rw [List.getElem_cons_succ] at h2
        cases i with
        | zero =>
          rw [List.getElem_cons_zero] at h1
          rw [List.filter_cons_of_pos h1, List.length_cons] at h
          have : (xs.filter p).length = 0 := by omega
          have hm : xs[j] ∈ xs.filter p := List.mem_filter.2 ⟨List.getElem_mem _, h2⟩
          rw [List.length_eq_zero_iff] at this
          rw [this] at hm
          cases hm
        | succ i =>
          simp only [List.length_cons, Nat.add_lt_add_iff_right] at hi
          rw [List.getElem_cons_succ] at h1
          refine ih.1 ?_ i j hi hj (by omega) ⟨h1, h2⟩
          refine Nat.le_trans ?_ h
          cases hp : p x with
          | true => rw [List.filter_cons_of_pos hp]; simp
          | false => rw [List.filter_cons_of_neg (by simp [hp])]; exact Nat.le_refl _
    · intro h
      cases hp : p x with
      | false =>
        rw [List.filter_cons_of_neg (by simp [hp])]
        refine ih.2 (fun i j hi hj hij hh => h (i + 1) (j + 1) (by simpa using hi) (by simpa using hj) (by omega) (by simpa using hh))
      | true =>
        rw [List.filter_cons_of_pos hp, List.length_cons]
        have : xs.filter p = [] := by
          rw [List.filter_eq_nil_iff]
          intro y hy hpy
          obtain ⟨j, hj, rfl⟩ := List.getElem_of_mem hy
          exact h 0 (j + 1) (by simp) (by simpa using hj) (by omega) (by simp [hp, hpy])
        rw [this]; simp

/-- The two parts of a store's validity. -/
theorem storeV_iff {vs : List (Int × List Int × Int)} : storeV vs = true ↔ chainV okH befH 16 vs = true ∧ vs.Pairwise neH := by
  unfold storeV
  rw [Bool.and_eq_true, List.all_eq_true]
  constructor
  · rintro ⟨h1, h2⟩
    refine ⟨h1, ?_⟩
    rw [List.pairwise_iff_getElem]
    intro i j hi hj hij he
    have := h2 _ (List.getElem_mem hi)
    simp only [decide_eq_true_eq] at this
    exact filter_le_one.1 this i j hi hj hij ⟨by simp, by simpa using he.symm⟩
  · rintro ⟨h1, h2⟩
    refine ⟨h1, fun x hx => ?_⟩
    simp only [decide_eq_true_eq]
    rw [filter_le_one]
    intro i j hi hj hij ⟨e1, e2⟩
    simp only [decide_eq_true_eq] at e1 e2
    rw [List.pairwise_iff_getElem] at h2
    exact h2 i j hi hj hij (e1.trans e2.symm)

theorem storeV_bad {vs : List (Int × List Int × Int)} {j : Nat} (hj : j < vs.length) (h : goodAt okH befH vs j = false) : storeV vs = false := by
  unfold storeV; rw [chainV_bad hj h]; rfl

theorem storeV_long {vs : List (Int × List Int × Int)} (h : 16 < vs.length) : storeV vs = false := by
  unfold storeV; rw [chainV_long h]; rfl

theorem storeV_twin {vs : List (Int × List Int × Int)} {i j : Nat} {x y : Int × List Int × Int} (hi : vs[i]? = some x) (hj : vs[j]? = some y) (hij : i < j) (he : x.2.1 = y.2.1) : storeV vs = false := by
  cases h : storeV vs with
  | false => rfl
  | true =>
    obtain ⟨_, h2⟩ := storeV_iff.1 h
    obtain ⟨h3, rfl⟩ := List.getElem?_eq_some_iff.1 hi
    obtain ⟨h4, rfl⟩ := List.getElem?_eq_some_iff.1 hj
    rw [List.pairwise_iff_getElem] at h2
    exact absurd he (h2 i j h3 h4 hij)

/-- So far no two are equal: the next one. -/
def noTwin (vs : List (Int × List Int × Int)) (i : Nat) : Prop := ∀ a b x y, a < b → b < i → vs[a]? = some x → vs[b]? = some y → x.2.1 ≠ y.2.1

theorem noTwin_zero (vs : List (Int × List Int × Int)) : noTwin vs 0 := fun a b x y h1 h2 => by omega

theorem noTwin_succ {vs : List (Int × List Int × Int)} {i : Nat} {y : Int × List Int × Int} (h : noTwin vs i) (hy : vs[i]? = some y) (hk : ∀ k x, k < i → vs[k]? = some x → x.2.1 ≠ y.2.1) : noTwin vs (i + 1) := by
  intro a b x z h1 h2 hx hz
  rcases Nat.lt_or_ge b i with hb | hb
  · exact h a b x z h1 hb hx hz
  · obtain rfl : b = i := by omega
    rw [hy] at hz
    injection hz with hz
    subst hz
    exact hk a x h1 hx

theorem storeV_all {vs : List (Int × List Int × Int)} (h : ∀ j, j < vs.length → goodAt okH befH vs j = true) (ht : noTwin vs vs.length) : storeV vs = decide (vs.length ≤ 16) := by
  have h1 := chainV_all (m := 16) h
  by_cases hl : vs.length ≤ 16
  · rw [decide_eq_true hl]
    rw [decide_eq_true hl] at h1
    refine storeV_iff.2 ⟨h1, ?_⟩
    rw [List.pairwise_iff_getElem]
    intro i j hi hj hij
    exact ht i j _ _ hij hj (List.getElem?_eq_getElem hi) (List.getElem?_eq_getElem hj)
  · rw [decide_eq_false hl]
    exact storeV_long (by omega)

/-- A block less. -/
theorem store_less {vs : List (Int × List Int × Int)} (h : storeV vs = true) (k : Nat) : storeV (vs.take k ++ vs.drop (k + 1)) = true := by
  obtain ⟨h1, h2⟩ := storeV_iff.1 h
  refine storeV_iff.2 ⟨chain_less befH_trans h1 k, ?_⟩
  have hs : (vs.take k ++ vs.drop (k + 1)).Sublist vs := by
    conv => rhs; rw [← List.take_append_drop k vs]
    refine List.Sublist.append (List.Sublist.refl _) ?_
    rw [← List.drop_drop]
    exact List.drop_sublist _ _
  exact h2.sublist hs

theorem store_twice {vs : List (Int × List Int × Int)} {k : Nat} (hk : k < vs.length) : storeV (vs.take (k + 1) ++ vs.drop k) = false := by
  unfold storeV; rw [chain_twice befH_irrefl hk]; rfl

end Go.Proofs.Ytkjimngpodhdbaa
