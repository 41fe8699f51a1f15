/- Plain laws of SpaceTake's answer. -/
import Derived.Test.YthcjelijpeddbaaPlainTake
import Derived.Test.YthcjelijpeddbaaPlainNum
namespace Go.Proofs.Ythcjelijpeddbaa
set_option linter.unusedVariables false

theorem take_ok {xs : List (Int × Int)} {m : Int} (h : (takeR xs m).2.2 = true) : spaceV xs = true ∧ 1 ≤ m ∧ m ≤ 100 ∧ takeX xs m = some ((takeR xs m).1, (takeR xs m).2.1) := by
  by_cases hc : spaceV xs = true ∧ 1 ≤ m ∧ m ≤ 100
  · cases hr : takeX xs m with
    | none => rw [takeR_none hr] at h; cases h
    | some r => rw [takeR_some hc hr]; exact ⟨hc.1, hc.2.1, hc.2.2, rfl⟩
  · rw [takeR_bad hc] at h; cases h

theorem takeX_sum {m : Int} : ∀ {xs : List (Int × Int)} {r : List (Int × Int) × Int}, takeX xs m = some r → sumX r.1 = sumX xs - m := by
  intro xs
  induction xs with
  | nil => intro r h; cases h
  | cons x t ih =>
    intro r h
    unfold takeX at h
    by_cases hle : m ≤ x.2
    · rw [if_pos hle] at h
      injection h with h
      subst h
      by_cases he : x.2 = m
      · simp only [if_pos he]; rw [sumX_cons]; omega
      · simp only [if_neg he]; rw [sumX_cons, sumX_cons]; simp only; omega
    · rw [if_neg hle] at h
      cases ht : takeX t m with
      | none => rw [ht] at h; cases h
      | some q =>
        rw [ht] at h
        simp only [Option.map_some, Option.some.injEq] at h
        subst h
        have := ih ht
        rw [sumX_cons, sumX_cons]; omega

theorem foldl_max (xs : List (Int × Int)) : ∀ s : Int, xs.foldl (fun s x => max s x.2) s = max s (xs.foldl (fun s x => max s x.2) s) := by
  induction xs with
  | nil => intro s; simp
  | cons x t ih =>
    intro s
    rw [List.foldl_cons, ih]
    omega

theorem foldl_max2 (xs : List (Int × Int)) : ∀ s t : Int, xs.foldl (fun s x => max s x.2) (max s t) = max s (xs.foldl (fun s x => max s x.2) t) := by
  induction xs with
  | nil => intro s t; rfl
  | cons x u ih =>
    intro s t
    rw [List.foldl_cons, List.foldl_cons, show max (max s t) x.2 = max s (max t x.2) by omega, ih]

theorem mostX_cons (x : Int × Int) (t : List (Int × Int)) (h : 0 ≤ x.2) : mostX (x :: t) = max x.2 (mostX t) := by
  unfold mostX
  rw [List.foldl_cons, show max (0 : Int) x.2 = max x.2 0 by omega, foldl_max2]

theorem mostX_nil : mostX [] = 0 := rfl

theorem mostX_ge {xs : List (Int × Int)} : ∀ {l : Int}, validFrom l xs = true → ∀ x ∈ xs, x.2 ≤ mostX xs := by
  induction xs with
  | nil => intro l _ x hx; cases hx
  | cons y t ih =>
    intro l h x hx
    rw [validFrom_cons, validX_iff] at h
    rw [mostX_cons _ _ (by omega)]
    rcases List.mem_cons.1 hx with rfl | hx
    · omega
    · have := ih h.2.2 x hx; omega

theorem mostX_mem {xs : List (Int × Int)} : ∀ {l : Int}, validFrom l xs = true → xs ≠ [] → ∃ x ∈ xs, x.2 = mostX xs := by
  induction xs with
  | nil => intro l _ h; exact absurd rfl h
  | cons y t ih =>
    intro l h _
    rw [validFrom_cons, validX_iff] at h
    rw [mostX_cons _ _ (by omega)]
    by_cases ht : t = []
    · subst ht
      exact ⟨y, by simp, by rw [mostX_nil]; omega⟩
    · obtain ⟨x, hx, he⟩ := ih h.2.2 ht
      rcases Int.lt_or_le y.2 (mostX t) with hlt | hle
      · exact ⟨x, by simp [hx], by omega⟩
      · exact ⟨y, by simp, by omega⟩

/-- SpaceTake is done just where the largest extent has so many places. -/
theorem takeX_iff {m : Int} (hm : 1 ≤ m) : ∀ {xs : List (Int × Int)} {l : Int}, validFrom l xs = true → ((takeX xs m).isSome = true ↔ m ≤ mostX xs) := by
  intro xs
  induction xs with
  | nil => intro l _; simp [takeX, mostX_nil]; omega
  | cons x t ih =>
    intro l h
    rw [validFrom_cons, validX_iff] at h
    rw [mostX_cons _ _ (by omega)]
    unfold takeX
    by_cases hle : m ≤ x.2
    · rw [if_pos hle]; simp; omega
    · rw [if_neg hle]
      have := ih h.2.2
      simp only [Option.isSome_map]
      rw [this]; omega

/-- The first place is taken. -/
theorem takeX_first {m : Int} : ∀ {xs : List (Int × Int)} {l : Int} {r : List (Int × Int) × Int}, validFrom l xs = true → takeX xs m = some r → ∀ x ∈ xs, x.1 < r.2 → x.2 < m := by
  intro xs
  induction xs with
  | nil => intro l r _ h; cases h
  | cons y t ih =>
    intro l r hv h x hx hlt
    have hv' := (validFrom_cons _ _ _).1 hv
    have vy := (validX_iff _).1 hv'.1
    unfold takeX at h
    by_cases hle : m ≤ y.2
    · rw [if_pos hle] at h
      injection h with h
      subst h
      simp only at hlt
      rcases List.mem_cons.1 hx with rfl | hx
      · omega
      · exfalso
        have : ∀ {zs : List (Int × Int)} {l : Int}, validFrom l zs = true → ∀ z ∈ zs, l ≤ z.1 := by
          intro zs
          induction zs with
          | nil => intro l _ z hz; cases hz
          | cons w u ihu =>
            intro l hw z hz
            rw [validFrom_cons, validX_iff] at hw
            rcases List.mem_cons.1 hz with rfl | hz
            · exact hw.2.1
            · have := ihu hw.2.2 z hz; omega
        have := this hv'.2.2 x hx
        omega
    · rw [if_neg hle] at h
      cases ht : takeX t m with
      | none => rw [ht] at h; cases h
      | some q =>
        rw [ht] at h
        simp only [Option.map_some, Option.some.injEq] at h
        subst h
        rcases List.mem_cons.1 hx with rfl | hx
        · omega
        · exact ih hv'.2.2 ht x hx hlt

/-- Who takes the most leaves one extent less, and none that is larger. -/
theorem takeX_most {m : Int} (hm : 1 ≤ m) : ∀ {xs : List (Int × Int)} {l : Int} {r : List (Int × Int) × Int}, validFrom l xs = true → mostX xs ≤ m → takeX xs m = some r → r.1.length + 1 = xs.length ∧ mostX r.1 ≤ m := by
  intro xs
  induction xs with
  | nil => intro l r _ _ h; cases h
  | cons y t ih =>
    intro l r hv hmo h
    have hv' := (validFrom_cons _ _ _).1 hv
    have vy := (validX_iff _).1 hv'.1
    rw [mostX_cons _ _ (by omega)] at hmo
    unfold takeX at h
    by_cases hle : m ≤ y.2
    · rw [if_pos hle] at h
      injection h with h
      subst h
      have he : y.2 = m := by omega
      simp only [if_pos he]
      exact ⟨by simp, by omega⟩
    · rw [if_neg hle] at h
      cases ht : takeX t m with
      | none => rw [ht] at h; cases h
      | some q =>
        rw [ht] at h
        simp only [Option.map_some, Option.some.injEq] at h
        subst h
        obtain ⟨i1, i2⟩ := ih hv'.2.2 (by omega) ht
        simp only
        rw [mostX_cons _ _ (by omega)]
        exact ⟨by simp [i1], by omega⟩

/-- What FnMostTake asks. -/
theorem most_take {xs : List (Int × Int)} (hv : spaceV xs = true) (h1 : 1 ≤ mostX xs) :
    (takeR xs (mostX xs)).2.2 = true ∧ (takeR xs (mostX xs)).1.length + 1 = xs.length ∧ spaceV (takeR xs (mostX xs)).1 = true ∧ mostX (takeR xs (mostX xs)).1 ≤ mostX xs := by
  have h2 := (mostX_bound hv).2
  have hs := (takeX_iff h1 hv).2 (Int.le_refl _)
  obtain ⟨r, hr⟩ := Option.isSome_iff_exists.1 hs
  rw [takeR_some ⟨hv, h1, h2⟩ hr]
  obtain ⟨a, b⟩ := takeX_most h1 hv (Int.le_refl _) hr
  exact ⟨rfl, a, (takeX_spec h1 hv hr).1, b⟩

theorem take_most {xs : List (Int × Int)} {m : Int} (hv : spaceV xs = true) : (takeR xs m).2.2 = (decide (1 ≤ m) && decide (m ≤ mostX xs)) := by
  have h2 := (mostX_bound hv).2
  by_cases h1 : 1 ≤ m
  · by_cases h3 : m ≤ mostX xs
    · obtain ⟨r, hr⟩ := Option.isSome_iff_exists.1 ((takeX_iff h1 hv).2 h3)
      rw [takeR_some ⟨hv, h1, by omega⟩ hr]; simp [h1, h3]
    · have : takeX xs m = none := by
        cases hr : takeX xs m with
        | none => rfl
        | some r => exact absurd ((takeX_iff h1 hv).1 (by rw [hr]; rfl)) h3
      rw [takeR_none this]; simp [h3]
  · rw [takeR_bad (by omega)]; simp [h1]

end Go.Proofs.Ythcjelijpeddbaa
