/- Plain laws of SpaceGive's answer. -/
import Derived.Test.YthcjelijpeddbaaPlainGive
import Derived.Test.YthcjelijpeddbaaPlainTake2
namespace Go.Proofs.Ythcjelijpeddbaa
set_option linter.unusedVariables false

theorem give_ok {xs : List (Int × Int)} {x : Int × Int} (h : (giveR xs x).2 = true) : spaceV xs = true ∧ validX x = true ∧ meetsL xs x = false ∧ (giveR xs x).1 = giveL xs x := by
  by_cases hc : spaceV xs = true ∧ validX x = true ∧ meetsL xs x = false
  · rw [giveR_good hc]; exact ⟨hc.1, hc.2.1, hc.2.2, rfl⟩
  · rw [giveR_bad hc] at h; cases h

theorem give_eq {xs ys : List (Int × Int)} {x : Int × Int} (hv : spaceV xs = true) (hx : validX x = true) (hf : ∀ p, x.1 ≤ p → p < x.1 + x.2 → inS xs p = false) (hy : spaceV ys = true) (h : ∀ p, inS ys p = (inS xs p || inX x p)) :
    giveR xs x = (ys, true) := by
  have hm := (meetsL_iff hv hx).2 hf
  rw [giveR_good ⟨hv, hx, hm⟩]
  obtain ⟨h1, h2⟩ := giveL_spec hv hx (meetsL_false.1 hm)
  rw [space_unique (giveL xs x) ys 0 0 h1 hy (fun p => by rw [h2, h])]

theorem sumX_insert (x : Int × Int) (xs : List (Int × Int)) : sumX (insertL x xs) = sumX xs + x.2 := by
  induction xs with
  | nil => simp [insertL, sumX]
  | cons y t ih =>
    unfold insertL
    split
    · rw [sumX_cons, sumX_cons]; omega
    · rw [sumX_cons, ih, sumX_cons]; omega

theorem sumX_mstep (out : List (Int × Int)) (y : Int × Int) : sumX (mstep out y) = sumX out + y.2 := by
  unfold mstep
  split
  · rename_i hc
    obtain ⟨init, e1, hl⟩ := last_split out hc.1
    generalize hq : out.getD (out.length - 1) (0, 0) = q at *
    rw [← hl, e1, List.set_append_right _ _ (Nat.le_refl _)]
    simp only [Nat.sub_self, List.set_cons_zero]
    rw [sumX_append, sumX_append, sumX_cons, sumX_cons]
    simp [sumX]; omega
  · rw [sumX_append, sumX_cons]; simp [sumX]

theorem sumX_fold : ∀ (ys out : List (Int × Int)), sumX (ys.foldl mstep out) = sumX out + sumX ys := by
  intro ys
  induction ys with
  | nil => intro out; simp [sumX]
  | cons y t ih =>
    intro out
    rw [List.foldl_cons, ih, sumX_mstep, sumX_cons]; omega

theorem give_sum (xs : List (Int × Int)) (x : Int × Int) : sumX (giveL xs x) = sumX xs + x.2 := by
  rw [giveL, sumX_fold, sumX_insert]; simp [sumX]

/-- What was taken can be given back. -/
theorem take_give {xs LL : List (Int × Int)} {m t : Int} (hv : spaceV xs = true) (hm : 1 ≤ m) (hr : takeX xs m = some (LL, t)) : giveR LL (t, m) = (xs, true) := by
  obtain ⟨h1, h2, h3, h4, h5⟩ := takeX_spec hm hv hr
  simp only at h1 h2 h3 h4 h5
  refine give_eq h1 (by rw [validX_iff]; simp only; omega) (fun p p1 p2 => ?_) hv (fun p => ?_)
  · simp only at p1 p2
    rw [h5]
    have e1 : decide (t ≤ p) = true := by simpa using p1
    have e2 : decide (p < t + m) = true := by simpa using p2
    rw [e1, e2]; simp
  · rw [h5, Bool.eq_iff_iff]
    simp only [Bool.or_eq_true, Bool.and_eq_true, Bool.not_eq_true', Bool.and_eq_false_iff, decide_eq_false_iff_not, inX_iff]
    constructor
    · intro h
      by_cases hp : t ≤ p ∧ p < t + m
      · exact .inr hp
      · exact .inl ⟨h, by omega⟩
    · rintro (⟨a, _⟩ | ⟨a, b⟩)
      · exact a
      · exact h4 p a b

/-- What is given is marked. -/
theorem give_in {xs : List (Int × Int)} {x : Int × Int} (hv : spaceV xs = true) (hx : validX x = true) (hm : meetsL xs x = false) : spaceV (giveL xs x) = true ∧ ∀ p, inS (giveL xs x) p = (inS xs p || inX x p) :=
  giveL_spec hv hx (meetsL_false.1 hm)

/-- Parts may be given one by one. -/
theorem give_parts {xs : List (Int × Int)} {f m : Int} {f1 m1 f2 m2 : Int} (hv : spaceV xs = true) (hx : validX (f, m) = true) (hm : meetsL xs (f, m) = false)
    (hx1 : validX (f1, m1) = true) (hx2 : validX (f2, m2) = true) (hun : ∀ p, inX (f, m) p = (inX (f1, m1) p || inX (f2, m2) p)) (hap : ∀ p, f2 ≤ p → p < f2 + m2 → inX (f1, m1) p = false) :
    (giveR xs (f1, m1)).2 = true ∧ giveR (giveR xs (f1, m1)).1 (f2, m2) = (giveL xs (f, m), true) := by
  have hfree := (meetsL_iff hv hx).1 hm
  simp only at hfree
  have hfr1 : ∀ p, f1 ≤ p → p < f1 + m1 → inS xs p = false := fun p p1 p2 => by
    have := hun p
    have e : inX (f1, m1) p = true := by rw [inX_iff]; exact ⟨p1, p2⟩
    rw [e, Bool.true_or, inX_iff] at this
    exact hfree p this.1 this.2
  have hm1 := (meetsL_iff hv hx1).2 hfr1
  rw [giveR_good ⟨hv, hx1, hm1⟩]
  obtain ⟨g1, g2⟩ := give_in hv hx1 hm1
  obtain ⟨k1, k2⟩ := give_in hv hx hm
  refine ⟨rfl, give_eq g1 hx2 (fun p p1 p2 => ?_) k1 (fun p => ?_)⟩
  · simp only at p1 p2
    rw [g2, hap p p1 p2, Bool.or_false]
    have := hun p
    have e : inX (f2, m2) p = true := by rw [inX_iff]; exact ⟨p1, p2⟩
    rw [e, Bool.or_true, inX_iff] at this
    exact hfree p this.1 this.2
  · rw [k2, g2, hun, Bool.or_assoc]

/-- Given again: it meets. -/
theorem give_again {xs : List (Int × Int)} {x : Int × Int} (hv : spaceV xs = true) (hx : validX x = true) (hm : meetsL xs x = false) : (giveR (giveL xs x) x).2 = false := by
  obtain ⟨k1, k2⟩ := give_in hv hx hm
  have vx := (validX_iff _).1 hx
  rw [giveR_bad]
  rintro ⟨_, _, h3⟩
  have := (meetsL_iff k1 hx).1 h3 x.1 (Int.le_refl _) (by omega)
  rw [k2] at this
  have e : inX x x.1 = true := by rw [inX_iff]; omega
  rw [e, Bool.or_true] at this
  cases this

end Go.Proofs.Ythcjelijpeddbaa
