/- Plain law of extents: valid lists with the same places are equal; taking and giving. -/
import Derived.Test.YthcjelijpeddbaaBase
namespace Go.Proofs.Ythcjelijpeddbaa
set_option linter.unusedVariables false

def validX (x : Int × Int) : Bool := decide (0 ≤ x.1) && decide (x.1 < 100) && decide (1 ≤ x.2) && decide (x.2 ≤ 100 - x.1)

def validFrom : Int → List (Int × Int) → Bool
  | _, [] => true
  | least, x :: t => validX x && decide (least ≤ x.1) && validFrom (x.1 + x.2 + 1) t

def spaceV (xs : List (Int × Int)) : Bool := validFrom 0 xs

/-- Is a place in one of the extents? -/
def inX (x : Int × Int) (p : Int) : Bool := decide (x.1 ≤ p) && decide (p < x.1 + x.2)
def inS (xs : List (Int × Int)) (p : Int) : Bool := xs.any fun x => inX x p

theorem validX_iff (x : Int × Int) : validX x = true ↔ 0 ≤ x.1 ∧ x.1 < 100 ∧ 1 ≤ x.2 ∧ x.2 ≤ 100 - x.1 := by
  simp only [validX, Bool.and_eq_true, decide_eq_true_eq]; exact ⟨fun h => ⟨h.1.1.1, h.1.1.2, h.1.2, h.2⟩, fun h => ⟨⟨⟨h.1, h.2.1⟩, h.2.2.1⟩, h.2.2.2⟩⟩

theorem validFrom_cons (l : Int) (x : Int × Int) (t : List (Int × Int)) : validFrom l (x :: t) = true ↔ validX x = true ∧ l ≤ x.1 ∧ validFrom (x.1 + x.2 + 1) t = true := by
  simp only [validFrom, Bool.and_eq_true, decide_eq_true_eq]; exact ⟨fun h => ⟨h.1.1, h.1.2, h.2⟩, fun h => ⟨⟨h.1, h.2.1⟩, h.2.2⟩⟩

theorem validFrom_mono {l l' : Int} {xs : List (Int × Int)} (h : validFrom l xs = true) (hl : l' ≤ l) : validFrom l' xs = true := by
  cases xs with
  | nil => rfl
  | cons x t =>
    rw [validFrom_cons] at *
    exact ⟨h.1, by omega, h.2.2⟩

theorem inX_iff (x : Int × Int) (p : Int) : inX x p = true ↔ x.1 ≤ p ∧ p < x.1 + x.2 := by simp [inX]

theorem inS_cons (x : Int × Int) (t : List (Int × Int)) (p : Int) : inS (x :: t) p = (inX x p || inS t p) := by simp [inS]

theorem inS_append (xs ys : List (Int × Int)) (p : Int) : inS (xs ++ ys) p = (inS xs p || inS ys p) := by simp [inS]

/-- Places lie from the least on, and below 100. -/
theorem inS_ge {xs : List (Int × Int)} : ∀ {l p : Int}, validFrom l xs = true → inS xs p = true → l ≤ p ∧ p < 100 := by
  induction xs with
  | nil => intro l p _ h; simp [inS] at h
  | cons x t ih =>
    intro l p hv h
    rw [validFrom_cons, validX_iff] at hv
    rw [inS_cons, Bool.or_eq_true] at h
    rcases h with h | h
    · rw [inX_iff] at h; omega
    · have := ih hv.2.2 h; omega

theorem inS_first {x : Int × Int} {t : List (Int × Int)} {l : Int} (h : validFrom l (x :: t) = true) : inS (x :: t) x.1 = true := by
  rw [validFrom_cons, validX_iff] at h
  rw [inS_cons, Bool.or_eq_true, inX_iff]
  left; omega

theorem inS_end {x : Int × Int} {t : List (Int × Int)} {l : Int} (h : validFrom l (x :: t) = true) : inS (x :: t) (x.1 + x.2) = false := by
  rw [validFrom_cons, validX_iff] at h
  cases hc : inS (x :: t) (x.1 + x.2) with
  | false => rfl
  | true =>
    rw [inS_cons, Bool.or_eq_true, inX_iff] at hc
    rcases hc with hc | hc
    · omega
    · have := inS_ge h.2.2 hc; omega

theorem inS_tail {x : Int × Int} {t : List (Int × Int)} {l p : Int} (h : validFrom l (x :: t) = true) : inS t p = (inS (x :: t) p && decide (x.1 + x.2 < p)) := by
  rw [validFrom_cons, validX_iff] at h
  rw [inS_cons, Bool.eq_iff_iff, Bool.and_eq_true, Bool.or_eq_true, inX_iff, decide_eq_true_eq]
  constructor
  · intro hp
    have := inS_ge h.2.2 hp
    exact ⟨.inr hp, by omega⟩
  · rintro ⟨h1 | h1, h2⟩
    · omega
    · exact h1

/-- Valid extents are told by their places. -/
theorem space_unique : ∀ (xs ys : List (Int × Int)) (l l' : Int), validFrom l xs = true → validFrom l' ys = true → (∀ p, inS xs p = inS ys p) → xs = ys := by
  intro xs
  induction xs with
  | nil =>
    intro ys l l' _ hy h
    cases ys with
    | nil => rfl
    | cons y u =>
      have h1 := inS_first hy
      rw [← h] at h1
      simp [inS] at h1
  | cons x t ih =>
    intro ys l l' hx hy h
    cases ys with
    | nil =>
      have h1 := inS_first hx
      rw [h] at h1
      simp [inS] at h1
    | cons y u =>
      have hx' := (validFrom_cons _ _ _).1 hx
      have hy' := (validFrom_cons _ _ _).1 hy
      have vx := (validX_iff _).1 hx'.1
      have vy := (validX_iff _).1 hy'.1
      have e1 : x.1 = y.1 := by
        have a1 := inS_first hx
        rw [h, inS_cons, Bool.or_eq_true, inX_iff] at a1
        have a2 := inS_first hy
        rw [← h, inS_cons, Bool.or_eq_true, inX_iff] at a2
        have b1 : y.1 ≤ x.1 := by
          rcases a1 with a | a
          · omega
          · have := inS_ge hy'.2.2 a; omega
        have b2 : x.1 ≤ y.1 := by
          rcases a2 with a | a
          · omega
          · have := inS_ge hx'.2.2 a; omega
        omega
      have e2 : x.2 = y.2 := by
        rcases Int.lt_trichotomy x.2 y.2 with hlt | heq | hgt
        · exfalso
          have a := inS_end hx
          rw [h, inS_cons, Bool.or_eq_false_iff] at a
          have : inX y (x.1 + x.2) = true := by rw [inX_iff]; omega
          rw [this] at a
          exact Bool.noConfusion a.1
        · exact heq
        · exfalso
          have a := inS_end hy
          rw [← h, inS_cons, Bool.or_eq_false_iff] at a
          have : inX x (y.1 + y.2) = true := by rw [inX_iff]; omega
          rw [this] at a
          exact Bool.noConfusion a.1
      have exy : x = y := Prod.ext e1 e2
      have := ih u _ _ hx'.2.2 hy'.2.2 (fun p => by rw [inS_tail hx, inS_tail hy, h, exy])
      rw [exy, this]

/-- One extent more behind all others. -/
theorem valid_snoc {xs : List (Int × Int)} {x : Int × Int} : ∀ {l : Int}, validFrom l xs = true → validX x = true → l ≤ x.1 → (∀ y ∈ xs, y.1 + y.2 + 1 ≤ x.1) → validFrom l (xs ++ [x]) = true := by
  induction xs with
  | nil => intro l _ hx hl _; rw [List.nil_append, validFrom_cons]; exact ⟨hx, hl, rfl⟩
  | cons y t ih =>
    intro l h hx hl hy
    rw [validFrom_cons] at h
    rw [List.cons_append, validFrom_cons]
    exact ⟨h.1, h.2.1, ih h.2.2 hx (hy y List.mem_cons_self) (fun z hz => hy z (List.mem_cons_of_mem _ hz))⟩

/-- The first extent that has so many places gives them. -/
def takeX : List (Int × Int) → Int → Option (List (Int × Int) × Int)
  | [], _ => none
  | x :: t, m => if m ≤ x.2 then some (if x.2 = m then t else (x.1 + m, x.2 - m) :: t, x.1) else (takeX t m).map fun r => (x :: r.1, r.2)

theorem takeX_spec {m : Int} (hm : 1 ≤ m) : ∀ {xs : List (Int × Int)} {l : Int} {r : List (Int × Int) × Int}, validFrom l xs = true → takeX xs m = some r →
    validFrom l r.1 = true ∧ l ≤ r.2 ∧ r.2 + m ≤ 100 ∧ (∀ p, r.2 ≤ p → p < r.2 + m → inS xs p = true) ∧ ∀ p, inS r.1 p = (inS xs p && !(decide (r.2 ≤ p) && decide (p < r.2 + m))) := by
  intro xs
  induction xs with
  | nil => intro l r _ h; cases h
  | cons x t ih =>
    intro l r hv h
    have hv' := (validFrom_cons _ _ _).1 hv
    have vx := (validX_iff _).1 hv'.1
    unfold takeX at h
    by_cases hle : m ≤ x.2
    · rw [if_pos hle] at h
      injection h with h
      subst h
      refine ⟨?_, hv'.2.1, by simp only; omega, fun p h1 h2 => ?_, fun p => ?_⟩
      · by_cases he : x.2 = m
        · simp only [if_pos he]; exact validFrom_mono hv'.2.2 (by omega)
        · simp only [if_neg he]
          rw [validFrom_cons, validX_iff]
          exact ⟨by simp only; omega, by simp only; omega, validFrom_mono hv'.2.2 (by simp only; omega)⟩
      · simp only at h1 h2
        rw [inS_cons, Bool.or_eq_true, inX_iff]; left; omega
      · simp only
        have ht := @inS_tail x t l p hv
        by_cases he : x.2 = m
        · rw [if_pos he, ht, Bool.eq_iff_iff]
          simp only [Bool.and_eq_true, decide_eq_true_eq, Bool.not_eq_true', Bool.and_eq_false_iff, decide_eq_false_iff_not]
          constructor
          · rintro ⟨a, b⟩; exact ⟨a, .inr (by omega)⟩
          · rintro ⟨a, b⟩
            refine ⟨a, ?_⟩
            rw [inS_cons, Bool.or_eq_true, inX_iff] at a
            rcases a with a | a
            · omega
            · have := inS_ge hv'.2.2 a; omega
        · rw [if_neg he, inS_cons, ht, Bool.eq_iff_iff]
          simp only [Bool.or_eq_true, Bool.and_eq_true, decide_eq_true_eq, Bool.not_eq_true', Bool.and_eq_false_iff, decide_eq_false_iff_not, inX_iff]
          constructor
          · rintro (a | ⟨a, b⟩)
            · refine ⟨?_, .inr (by omega)⟩
              rw [inS_cons, Bool.or_eq_true, inX_iff]; left; omega
            · exact ⟨a, .inr (by omega)⟩
          · rintro ⟨a, b⟩
            rw [inS_cons, Bool.or_eq_true, inX_iff] at a
            rcases a with a | a
            · left; omega
            · have := inS_ge hv'.2.2 a
              right
              exact ⟨by rw [inS_cons, a, Bool.or_true], by omega⟩
    · rw [if_neg hle] at h
      cases ht : takeX t m with
      | none => rw [ht] at h; cases h
      | some q =>
        rw [ht] at h
        simp only [Option.map_some, Option.some.injEq] at h
        subst h
        obtain ⟨i1, i2, i3, i4, i5⟩ := ih hv'.2.2 ht
        refine ⟨?_, by simp only; omega, i3, fun p h1 h2 => ?_, fun p => ?_⟩
        · simp only
          rw [validFrom_cons]; exact ⟨hv'.1, hv'.2.1, i1⟩
        · rw [inS_cons, i4 p h1 h2, Bool.or_true]
        · simp only
          rw [inS_cons, inS_cons, i5 p, Bool.eq_iff_iff]
          simp only [Bool.or_eq_true, Bool.and_eq_true, Bool.not_eq_true', Bool.and_eq_false_iff, decide_eq_false_iff_not, inX_iff]
          constructor
          · rintro (a | ⟨a, b⟩)
            · exact ⟨.inl a, .inl (by omega)⟩
            · exact ⟨.inr a, b⟩
          · rintro ⟨a | a, b⟩
            · exact .inl a
            · exact .inr ⟨a, b⟩

/-- Extents that ascend and may touch. -/
def validT : Int → List (Int × Int) → Prop
  | _, [] => True
  | least, x :: t => validX x = true ∧ least ≤ x.1 ∧ validT (x.1 + x.2) t

theorem validT_of {xs : List (Int × Int)} : ∀ {l : Int}, validFrom l xs = true → validT l xs := by
  induction xs with
  | nil => intro l _; trivial
  | cons x t ih =>
    intro l h
    rw [validFrom_cons] at h
    exact ⟨h.1, h.2.1, ih (validFrom_mono h.2.2 (by omega))⟩

theorem validT_mono {l l' : Int} {xs : List (Int × Int)} (h : validT l xs) (hl : l' ≤ l) : validT l' xs := by
  cases xs with
  | nil => trivial
  | cons x t => exact ⟨h.1, Int.le_trans hl h.2.1, h.2.2⟩

/-- An extent at its place. -/
def insertL (x : Int × Int) : List (Int × Int) → List (Int × Int)
  | [] => [x]
  | y :: t => if x.1 < y.1 then x :: y :: t else y :: insertL x t

/-- Two extents have no place in common. -/
def meets (a b : Int × Int) : Bool := decide (a.1 < b.1 + b.2) && decide (b.1 < a.1 + a.2)

theorem inS_insert (x : Int × Int) (xs : List (Int × Int)) (p : Int) : inS (insertL x xs) p = (inS xs p || inX x p) := by
  induction xs with
  | nil => simp [insertL, inS]
  | cons y t ih =>
    unfold insertL
    split
    · rw [inS_cons, inS_cons, Bool.or_comm]
    · rw [inS_cons, ih, inS_cons, Bool.or_assoc]

theorem insertL_valid {x : Int × Int} (hx : validX x = true) : ∀ {xs : List (Int × Int)} {l : Int}, validT l xs → l ≤ x.1 → (∀ y ∈ xs, meets y x = false) → validT l (insertL x xs) := by
  intro xs
  induction xs with
  | nil => intro l _ hl _; exact ⟨hx, hl, trivial⟩
  | cons y t ih =>
    intro l h hl hm
    have vx := (validX_iff _).1 hx
    have vy := (validX_iff _).1 h.1
    have hmy := hm y List.mem_cons_self
    simp only [meets, Bool.and_eq_false_iff, decide_eq_false_iff_not] at hmy
    unfold insertL
    split
    · rename_i hlt
      exact ⟨hx, hl, h.1, by omega, h.2.2⟩
    · rename_i hlt
      exact ⟨h.1, h.2.1, ih h.2.2 (by omega) (fun z hz => hm z (List.mem_cons_of_mem _ hz))⟩

/-- One extent is joined to those ahead of it. -/
def mstep (out : List (Int × Int)) (y : Int × Int) : List (Int × Int) :=
  if out ≠ [] ∧ (out.getD (out.length - 1) (0, 0)).1 + (out.getD (out.length - 1) (0, 0)).2 = y.1 then
    out.set (out.length - 1) ((out.getD (out.length - 1) (0, 0)).1, (out.getD (out.length - 1) (0, 0)).2 + y.2)
  else out ++ [y]

def giveL (xs : List (Int × Int)) (x : Int × Int) : List (Int × Int) := (insertL x xs).foldl mstep []

theorem last_split (ps : List (Int × Int)) (h : ps ≠ []) : ∃ init, ps = init ++ [ps.getD (ps.length - 1) (0, 0)] ∧ init.length = ps.length - 1 := by
  rcases List.eq_nil_or_concat ps with rfl | ⟨l, x, rfl⟩
  · exact absurd rfl h
  · refine ⟨l, ?_, by simp⟩
    simp [List.getD_eq_getElem?_getD]

theorem valid_init {xs : List (Int × Int)} {x : Int × Int} : ∀ {l : Int}, validFrom l (xs ++ [x]) = true → validFrom l xs = true ∧ validX x = true ∧ l ≤ x.1 ∧ ∀ y ∈ xs, y.1 + y.2 + 1 ≤ x.1 := by
  induction xs with
  | nil => intro l h; rw [List.nil_append, validFrom_cons] at h; exact ⟨rfl, h.1, h.2.1, fun y hy => by cases hy⟩
  | cons y t ih =>
    intro l h
    rw [List.cons_append, validFrom_cons] at h
    obtain ⟨i1, i2, i3, i4⟩ := ih h.2.2
    have vy := (validX_iff _).1 h.1
    refine ⟨by rw [validFrom_cons]; exact ⟨h.1, h.2.1, i1⟩, i2, by omega, fun z hz => ?_⟩
    rcases List.mem_cons.1 hz with rfl | hz
    · exact i3
    · exact i4 z hz

theorem merge_valid : ∀ (ys out : List (Int × Int)) (e : Int), validFrom 0 out = true → (∀ y ∈ out, y.1 + y.2 ≤ e) → 0 ≤ e → validT e ys →
    validFrom 0 (ys.foldl mstep out) = true ∧ ∀ p, inS (ys.foldl mstep out) p = (inS out p || inS ys p) := by
  intro ys
  induction ys with
  | nil => intro out e h _ _ _; exact ⟨h, fun p => by simp [inS]⟩
  | cons y t ih =>
    intro out e h he h0 ht
    have vy := (validX_iff _).1 ht.1
    simp only [List.foldl_cons]
    have hstep : validFrom 0 (mstep out y) = true ∧ (∀ z ∈ mstep out y, z.1 + z.2 ≤ y.1 + y.2) ∧ ∀ p, inS (mstep out y) p = (inS out p || inX y p) := by
      unfold mstep
      split
      · rename_i hc
        obtain ⟨init, e1, hl⟩ := last_split out hc.1
        generalize hq : out.getD (out.length - 1) (0, 0) = q at *
        rw [← hl, e1, List.set_append_right _ _ (Nat.le_refl _)]
        simp only [Nat.sub_self, List.set_cons_zero]
        rw [e1] at h
        obtain ⟨i1, i2, i3, i4⟩ := valid_init h
        have vq := (validX_iff _).1 i2
        refine ⟨valid_snoc i1 ?_ (by simp only; omega) (fun z hz => by simp only; exact i4 z hz), fun z hz => ?_, fun p => ?_⟩
        · rw [validX_iff]; simp only; omega
        · rcases List.mem_append.1 hz with hz | hz
          · have := he z (by rw [e1]; exact List.mem_append_left _ hz)
            have := ht.2.1
            omega
          · simp at hz; subst hz; simp only; omega
        · rw [inS_append, inS_append, Bool.eq_iff_iff]
          simp only [inS, List.any_cons, List.any_nil, Bool.or_false, Bool.or_eq_true, inX_iff]
          have := hc.2
          constructor
          · rintro (a | a)
            · exact .inl (.inl a)
            · by_cases hp : p < q.1 + q.2
              · exact .inl (.inr ⟨a.1, hp⟩)
              · exact .inr (by omega)
          · rintro ((a | a) | a)
            · exact .inl a
            · exact .inr (by omega)
            · exact .inr (by omega)
      · rename_i hc
        refine ⟨valid_snoc h ht.1 (by omega) (fun z hz => ?_), fun z hz => ?_, fun p => ?_⟩
        · have hz1 := he z hz
          have hz2 := ht.2.1
          rcases Int.lt_or_le (z.1 + z.2) y.1 with hlt | hge
          · omega
          · exfalso
            have hne : out ≠ [] := fun e => by subst e; cases hz
            obtain ⟨init, e1, hl⟩ := last_split out hne
            apply hc
            refine ⟨hne, ?_⟩
            generalize hq : out.getD (out.length - 1) (0, 0) = q at *
            have hqm : q ∈ out := by rw [e1]; simp
            have hq1 := he q hqm
            rw [e1] at h hz
            obtain ⟨_, i2, _, i4⟩ := valid_init h
            have vq := (validX_iff _).1 i2
            rcases List.mem_append.1 hz with hz | hz
            · have := i4 z hz; omega
            · simp at hz; subst hz; omega
        · rcases List.mem_append.1 hz with hz | hz
          · have := he z hz; have := ht.2.1; omega
          · simp at hz; subst hz; omega
        · rw [inS_append]; simp [inS]
    obtain ⟨s1, s2, s3⟩ := hstep
    obtain ⟨r1, r2⟩ := ih (mstep out y) (y.1 + y.2) s1 s2 (by omega) ht.2.2
    refine ⟨r1, fun p => ?_⟩
    rw [r2, s3, inS_cons, Bool.or_assoc]

theorem giveL_spec {xs : List (Int × Int)} {x : Int × Int} (h : spaceV xs = true) (hx : validX x = true) (hm : ∀ y ∈ xs, meets y x = false) :
    spaceV (giveL xs x) = true ∧ ∀ p, inS (giveL xs x) p = (inS xs p || inX x p) := by
  have vx := (validX_iff _).1 hx
  have h1 := insertL_valid hx (validT_of h) vx.1 hm
  obtain ⟨r1, r2⟩ := merge_valid (insertL x xs) [] 0 rfl (fun y hy => by cases hy) (Int.le_refl _) h1
  refine ⟨r1, fun p => ?_⟩
  rw [giveL, r2, inS_insert]
  simp [inS]

/-- An extent meets none of others just if none of its places is in one. -/
theorem meets_iff {xs : List (Int × Int)} {x : Int × Int} {l : Int} (h : validFrom l xs = true) (hx : validX x = true) :
    (∀ y ∈ xs, meets y x = false) ↔ ∀ p, x.1 ≤ p → p < x.1 + x.2 → inS xs p = false := by
  have vx := (validX_iff _).1 hx
  have hv : ∀ y ∈ xs, 0 ≤ y.1 ∧ y.1 < 100 ∧ 1 ≤ y.2 ∧ y.2 ≤ 100 - y.1 := by
    clear hx vx
    induction xs generalizing l with
    | nil => intro y hy; cases hy
    | cons z t ih =>
      rw [validFrom_cons] at h
      intro y hy
      rcases List.mem_cons.1 hy with rfl | hy
      · exact (validX_iff _).1 h.1
      · exact ih h.2.2 y hy
  constructor
  · intro hm p h1 h2
    simp only [inS, List.any_eq_false]
    intro y hy hp
    rw [inX_iff] at hp
    have := hm y hy
    simp only [meets, Bool.and_eq_false_iff, decide_eq_false_iff_not] at this
    omega
  · intro hp y hy
    cases hc : meets y x with
    | false => rfl
    | true =>
      exfalso
      simp only [meets, Bool.and_eq_true, decide_eq_true_eq] at hc
      have vy := hv y hy
      have h1 := hp (max x.1 y.1) (by omega) (by omega)
      simp only [inS, List.any_eq_false] at h1
      have := h1 y hy
      rw [inX_iff] at this
      omega

end Go.Proofs.Ythcjelijpeddbaa
