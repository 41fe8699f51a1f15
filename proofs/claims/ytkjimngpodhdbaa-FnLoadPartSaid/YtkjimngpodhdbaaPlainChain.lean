/- Plain: lists whose elements are all good, each behind the one ahead of it; the order of texts. -/
import Derived.Test.YtkjimngpodhdbaaBase
namespace Go.Proofs.Ytkjimngpodhdbaa
set_option linter.unusedVariables false

/-- The element at j is good, and stands behind the one ahead of it. -/
def goodAt {α : Type} (ok : α → Bool) (bef : α → α → Bool) (xs : List α) (j : Nat) : Bool :=
  match xs[j]? with
  | none => true
  | some x => ok x && (match j with | 0 => true | i + 1 => match xs[i]? with | none => true | some y => bef y x)

/-- All elements are good, in order, and they are at most m. -/
def chainV {α : Type} (ok : α → Bool) (bef : α → α → Bool) (m : Nat) (xs : List α) : Bool :=
  decide (xs.length ≤ m) && (List.range xs.length).all (goodAt ok bef xs)

theorem chainV_iff {α : Type} {ok : α → Bool} {bef : α → α → Bool} {m : Nat} {xs : List α} : chainV ok bef m xs = true ↔ xs.length ≤ m ∧ ∀ j, j < xs.length → goodAt ok bef xs j = true := by
  simp [chainV]

theorem chainV_bad {α : Type} {ok : α → Bool} {bef : α → α → Bool} {m : Nat} {xs : List α} {j : Nat} (hj : j < xs.length) (h : goodAt ok bef xs j = false) : chainV ok bef m xs = false := by
  cases hc : chainV ok bef m xs with
  | false => rfl
  | true => rw [(chainV_iff.1 hc).2 j hj] at h; cases h

theorem chainV_long {α : Type} {ok : α → Bool} {bef : α → α → Bool} {m : Nat} {xs : List α} (h : m < xs.length) : chainV ok bef m xs = false := by
  cases hc : chainV ok bef m xs with
  | false => rfl
  | true => have := (chainV_iff.1 hc).1; omega

theorem chainV_all {α : Type} {ok : α → Bool} {bef : α → α → Bool} {m : Nat} {xs : List α} (h : ∀ j, j < xs.length → goodAt ok bef xs j = true) : chainV ok bef m xs = decide (xs.length ≤ m) := by
  have : (List.range xs.length).all (goodAt ok bef xs) = true := by simpa using h
  simp [chainV, this]

theorem goodAt_zero {α : Type} {ok : α → Bool} {bef : α → α → Bool} {xs : List α} {x : α} (h : xs[0]? = some x) : goodAt ok bef xs 0 = ok x := by
  simp [goodAt, h]

theorem goodAt_succ {α : Type} {ok : α → Bool} {bef : α → α → Bool} {xs : List α} {j : Nat} {x y : α} (hj : 0 < j) (h : xs[j]? = some x) (hy : xs[j - 1]? = some y) : goodAt ok bef xs j = (ok x && bef y x) := by
  cases j with
  | zero => omega
  | succ i => simp only [Nat.add_sub_cancel] at hy; simp [goodAt, h, hy]

theorem good_step {P : Nat → Prop} {k : Nat} (h : ∀ j, j < k → P j) (hk : P k) : ∀ j, j < k + 1 → P j := by
  intro j hj
  rcases Nat.lt_or_ge j k with h' | h'
  · exact h j h'
  · obtain rfl : j = k := by omega
    exact hk

/-- In a chain all stand behind all ahead of them. -/
theorem chain_pairwise {α : Type} {ok : α → Bool} {bef : α → α → Bool} (ht : ∀ x y z, bef x y = true → bef y z = true → bef x z = true) {m : Nat} {xs : List α} (h : chainV ok bef m xs = true) :
    xs.length ≤ m ∧ (∀ x ∈ xs, ok x = true) ∧ xs.Pairwise (fun x y => bef x y = true) := by
  obtain ⟨h1, h2⟩ := chainV_iff.1 h
  refine ⟨h1, ?_, ?_⟩
  · intro x hx
    obtain ⟨j, hj, rfl⟩ := List.getElem_of_mem hx
    have := h2 j hj
    unfold goodAt at this
    rw [List.getElem?_eq_getElem hj] at this
    simp only [Bool.and_eq_true] at this
    exact this.1
  · have hadj : ∀ j (hj : j + 1 < xs.length), bef xs[j] xs[j + 1] = true := by
      intro j hj
      have := h2 (j + 1) hj
      rw [goodAt_succ (by omega) (List.getElem?_eq_getElem hj) (by rw [Nat.add_sub_cancel]; exact List.getElem?_eq_getElem (by omega))] at this
      simp only [Bool.and_eq_true] at this
      exact this.2
    have hall : ∀ d i (hd : i + d + 1 < xs.length), bef xs[i] xs[i + d + 1] = true := by
      intro d
      induction d with
      | zero => intro i hd; exact hadj i hd
      | succ d ih =>
        intro i hd
        exact ht _ _ _ (ih i (by omega)) (hadj (i + d + 1) (by omega))
    rw [List.pairwise_iff_getElem]
    intro i j hi hj hij
    obtain ⟨d, rfl⟩ : ∃ d, j = i + d + 1 := ⟨j - i - 1, by omega⟩
    exact hall d i hj

theorem chain_of_pairwise {α : Type} {ok : α → Bool} {bef : α → α → Bool} {m : Nat} {xs : List α} (h1 : xs.length ≤ m) (h2 : ∀ x ∈ xs, ok x = true) (h3 : xs.Pairwise (fun x y => bef x y = true)) : chainV ok bef m xs = true := by
  refine chainV_iff.2 ⟨h1, fun j hj => ?_⟩
  rw [List.pairwise_iff_getElem] at h3
  cases j with
  | zero => rw [goodAt_zero (List.getElem?_eq_getElem hj)]; exact h2 _ (List.getElem_mem _)
  | succ i =>
    rw [goodAt_succ (by omega) (List.getElem?_eq_getElem hj) (by rw [Nat.add_sub_cancel]; exact List.getElem?_eq_getElem (by omega)), h2 _ (List.getElem_mem _)]
    simpa using h3 i (i + 1) (by omega) hj (by omega)

/-- An element less. -/
theorem chain_less {α : Type} {ok : α → Bool} {bef : α → α → Bool} (ht : ∀ x y z, bef x y = true → bef y z = true → bef x z = true) {m : Nat} {xs : List α} (h : chainV ok bef m xs = true) (k : Nat) :
    chainV ok bef m (xs.take k ++ xs.drop (k + 1)) = true := by
  obtain ⟨h1, h2, h3⟩ := chain_pairwise ht h
  have hs : (xs.take k ++ xs.drop (k + 1)).Sublist xs := by
    conv => rhs; rw [← List.take_append_drop k xs]
    refine List.Sublist.append (List.Sublist.refl _) ?_
    rw [← List.drop_drop]
    exact List.drop_sublist _ _
  exact chain_of_pairwise (Nat.le_trans hs.length_le h1) (fun x hx => h2 x (hs.mem hx)) (h3.sublist hs)

/-- An element twice. -/
theorem chain_twice {α : Type} {ok : α → Bool} {bef : α → α → Bool} (hi : ∀ x, bef x x = false) {m : Nat} {xs : List α} {k : Nat} (hk : k < xs.length) :
    chainV ok bef m (xs.take (k + 1) ++ xs.drop k) = false := by
  have e1 : (xs.take (k + 1) ++ xs.drop k)[k]? = some xs[k] := by
    rw [List.getElem?_append_left (by rw [List.length_take]; omega), List.getElem?_take, if_pos (by omega), List.getElem?_eq_getElem hk]
  have e2 : (xs.take (k + 1) ++ xs.drop k)[k + 1]? = some xs[k] := by
    rw [List.getElem?_append_right (by rw [List.length_take]; omega), List.length_take, List.getElem?_drop, show k + (k + 1 - min (k + 1) xs.length) = k by omega, List.getElem?_eq_getElem hk]
  refine chainV_bad (j := k + 1) (List.getElem?_eq_some_iff.1 e2).1 ?_
  rw [goodAt_succ (by omega) e2 (by rw [Nat.add_sub_cancel]; exact e1), hi]
  simp

/-- The order of texts. -/
def ltB (a b : List UInt8) : Bool := Op.bytesLess a b

theorem ltB_nil (b : List UInt8) : ltB [] b = !b.isEmpty := by cases b <;> rfl
theorem ltB_cons (a : UInt8) (x : List UInt8) (b : UInt8) (y : List UInt8) : ltB (a :: x) (b :: y) = (decide (a < b) || (a == b && ltB x y)) := rfl
theorem ltB_cons_nil (a : UInt8) (x : List UInt8) : ltB (a :: x) [] = false := rfl

theorem ltB_irrefl (a : List UInt8) : ltB a a = false := by
  induction a with
  | nil => rfl
  | cons x a ih => rw [ltB_cons, ih]; simp [UInt8.lt_irrefl]

theorem ltB_trans : ∀ {a b c : List UInt8}, ltB a b = true → ltB b c = true → ltB a c = true := by
  intro a
  induction a with
  | nil =>
    intro b c h1 h2
    cases c with
    | nil => cases b with
      | nil => exact h1
      | cons y b => rw [ltB_cons_nil] at h2; cases h2
    | cons z c => rfl
  | cons x a ih =>
    intro b c h1 h2
    cases b with
    | nil => rw [ltB_cons_nil] at h1; cases h1
    | cons y b =>
      cases c with
      | nil => rw [ltB_cons_nil] at h2; cases h2
      | cons z c =>
        rw [ltB_cons] at h1 h2 ⊢
        simp only [Bool.or_eq_true, Bool.and_eq_true, decide_eq_true_eq, beq_iff_eq] at h1 h2 ⊢
        rcases h1 with h1 | ⟨rfl, h1⟩
        · rcases h2 with h2 | ⟨rfl, h2⟩
          · exact .inl (UInt8.lt_trans h1 h2)
          · exact .inl h1
        · rcases h2 with h2 | ⟨rfl, h2⟩
          · exact .inl h2
          · exact .inr ⟨rfl, ih h1 h2⟩

end Go.Proofs.Ytkjimngpodhdbaa
