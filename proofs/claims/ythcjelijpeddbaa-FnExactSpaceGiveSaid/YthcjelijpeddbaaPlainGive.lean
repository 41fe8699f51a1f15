/- Plain: how spec's SpaceGive goes on. -/
import Derived.Test.YthcjelijpeddbaaPlainTake
namespace Go.Proofs.Ythcjelijpeddbaa
set_option linter.unusedVariables false

theorem spaceV_one (x : Int × Int) : spaceV [x] = validX x := by
  unfold spaceV
  rw [Bool.eq_iff_iff, validFrom_cons]
  constructor
  · intro h; exact h.1
  · intro h; exact ⟨h, ((validX_iff _).1 h).1, rfl⟩

theorem insertL_at {x : Int × Int} {xs : List (Int × Int)} : ∀ {k : Nat}, k < xs.length → (∀ j, j < k → ¬ x.1 < (xs.getD j (0, 0)).1) → x.1 < (xs.getD k (0, 0)).1 →
    insertL x xs = xs.take k ++ x :: xs.drop k := by
  induction xs with
  | nil => intro k h _ _; simp at h
  | cons y t ih =>
    intro k hk h hx
    cases k with
    | zero =>
      simp [List.getD_eq_getElem?_getD] at hx
      unfold insertL
      rw [if_pos hx]; simp
    | succ k =>
      have h0 := h 0 (by omega)
      simp [List.getD_eq_getElem?_getD] at h0
      unfold insertL
      rw [if_neg (by omega), ih (k := k) (by simpa using hk) (fun j hj => by have := h (j + 1) (by omega); simpa [List.getD_eq_getElem?_getD] using this) (by simpa [List.getD_eq_getElem?_getD] using hx)]
      simp

theorem insertL_end {x : Int × Int} {xs : List (Int × Int)} (h : ∀ j, j < xs.length → ¬ x.1 < (xs.getD j (0, 0)).1) : insertL x xs = xs ++ [x] := by
  induction xs with
  | nil => rfl
  | cons y t ih =>
    have h0 := h 0 (by simp)
    simp [List.getD_eq_getElem?_getD] at h0
    unfold insertL
    rw [if_neg (by omega), ih (fun j hj => by have := h (j + 1) (by simpa using hj); simpa [List.getD_eq_getElem?_getD] using this)]
    rfl

theorem insertL_length (x : Int × Int) (xs : List (Int × Int)) : (insertL x xs).length = xs.length + 1 := by
  induction xs with
  | nil => rfl
  | cons y t ih =>
    unfold insertL
    split
    · simp
    · simp [ih]

/-- What l21Insert has collected after k extents. -/
def InsAt (x : Int × Int) (xs : List (Int × Int)) (k : Nat) (out : List (Int × Int)) (d : Bool) : Prop :=
  (d = false ∧ out = xs.take k ∧ ∀ j, j < k → ¬ x.1 < (xs.getD j (0, 0)).1) ∨ (d = true ∧ out ++ xs.drop k = insertL x xs)

theorem InsAt.start (x : Int × Int) (xs : List (Int × Int)) : InsAt x xs 0 [] false := .inl ⟨rfl, rfl, fun j h => by omega⟩

theorem getD_dropX {xs : List (Int × Int)} {k : Nat} (h : k < xs.length) : xs.drop k = xs.getD k (0, 0) :: xs.drop (k + 1) := by
  rw [List.drop_eq_getElem_cons h]
  simp [List.getD_eq_getElem?_getD, h]

theorem InsAt.keep {x : Int × Int} {xs out : List (Int × Int)} {k : Nat} {d : Bool} (h : InsAt x xs k out d) (hk : k < xs.length) (hno : d = false → ¬ x.1 < (xs.getD k (0, 0)).1) : InsAt x xs (k + 1) (out ++ [xs.getD k (0, 0)]) d := by
  rcases h with ⟨rfl, rfl, hj⟩ | ⟨rfl, ho⟩
  · refine .inl ⟨rfl, ?_, fun j h => ?_⟩
    · rw [List.take_succ_eq_append_getElem hk]; simp [List.getD_eq_getElem?_getD, hk]
    · rcases Nat.lt_or_ge j k with h' | h'
      · exact hj j h'
      · obtain rfl : j = k := by omega
        exact hno rfl
  · refine .inr ⟨rfl, ?_⟩
    rw [getD_dropX hk] at ho
    simpa using ho

theorem InsAt.put {x : Int × Int} {xs out : List (Int × Int)} {k : Nat} (h : InsAt x xs k out false) (hk : k < xs.length) (hx : x.1 < (xs.getD k (0, 0)).1) : InsAt x xs (k + 1) (out ++ [x] ++ [xs.getD k (0, 0)]) true := by
  rcases h with ⟨_, rfl, hj⟩ | ⟨h, _⟩
  · refine .inr ⟨rfl, ?_⟩
    rw [insertL_at hk hj hx, getD_dropX hk]
    simp
  · cases h

theorem InsAt.end_ {x : Int × Int} {xs out : List (Int × Int)} {d : Bool} (h : InsAt x xs xs.length out d) : (d = true → out = insertL x xs) ∧ (d = false → out ++ [x] = insertL x xs) := by
  rcases h with ⟨rfl, rfl, hj⟩ | ⟨rfl, ho⟩
  · refine ⟨(fun h => by cases h), fun _ => ?_⟩
    rw [insertL_end hj]; simp
  · refine ⟨fun _ => ?_, (fun h => by cases h)⟩
    simpa using ho

theorem InsAt.len {x : Int × Int} {xs out : List (Int × Int)} {k : Nat} {d : Bool} (h : InsAt x xs k out d) : out.length ≤ xs.length + 1 := by
  rcases h with ⟨rfl, rfl, hj⟩ | ⟨rfl, ho⟩
  · rw [List.length_take]; omega
  · have : (out ++ xs.drop k).length = (insertL x xs).length := by rw [ho]
    rw [List.length_append, insertL_length] at this
    omega

theorem validT_take {xs : List (Int × Int)} : ∀ {l : Int} (k : Nat), validT l xs → validT l (xs.take k) := by
  induction xs with
  | nil => intro l k h; simpa using h
  | cons x t ih =>
    intro l k h
    cases k with
    | zero => trivial
    | succ k => exact ⟨h.1, h.2.1, ih k h.2.2⟩

theorem validT_at {xs : List (Int × Int)} : ∀ {l : Int} {k : Nat}, validT l xs → k < xs.length → validX (xs.getD k (0, 0)) = true := by
  induction xs with
  | nil => intro l k _ h; simp at h
  | cons x t ih =>
    intro l k h hk
    cases k with
    | zero => exact h.1
    | succ k => simpa [List.getD_eq_getElem?_getD] using ih h.2.2 (by simpa using hk)

theorem foldl_take {ys : List (Int × Int)} {k : Nat} (h : k < ys.length) : (ys.take (k + 1)).foldl mstep [] = mstep ((ys.take k).foldl mstep []) (ys.getD k (0, 0)) := by
  have e : ys.take (k + 1) = ys.take k ++ [ys.getD k (0, 0)] := by
    rw [List.take_succ_eq_append_getElem h]; simp [List.getD_eq_getElem?_getD, h]
  rw [e, List.foldl_append]; rfl

theorem fold_valid {ys : List (Int × Int)} (h : validT 0 ys) (k : Nat) : spaceV ((ys.take k).foldl mstep []) = true :=
  (merge_valid (ys.take k) [] 0 rfl (fun y hy => by cases hy) (Int.le_refl _) (validT_take k h)).1

theorem mstep_join {out : List (Int × Int)} {n : Nat} {f m : Int} {y : Int × Int} (hn : out.length = n + 1) (hl : out.getD n (0, 0) = (f, m)) (he : f + m = y.1) : mstep out y = out.set n (f, m + y.2) := by
  unfold mstep
  have h1 : out.length - 1 = n := by omega
  rw [h1, hl, if_pos ⟨by rintro rfl; simp at hn, he⟩]

theorem mstep_apart {out : List (Int × Int)} {n : Nat} {f m : Int} {y : Int × Int} (hn : out.length = n + 1) (hl : out.getD n (0, 0) = (f, m)) (he : ¬ f + m = y.1) : mstep out y = out ++ [y] := by
  unfold mstep
  have h1 : out.length - 1 = n := by omega
  rw [h1, hl, if_neg (fun h => he h.2)]

theorem mstep_nil (y : Int × Int) : mstep [] y = [y] := by simp [mstep]

end Go.Proofs.Ythcjelijpeddbaa
