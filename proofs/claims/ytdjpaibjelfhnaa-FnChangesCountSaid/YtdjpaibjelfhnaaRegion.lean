/- A region that draws its order: operations that are not wanted are taken first, all at once. -/
import Derived.Test.YtdjpaibjelfhnaaBase
import Derived.Deep.RegionHeld3
namespace Go.Proofs.Ytdjpaibjelfhnaa
open Go.RowKit
set_option linter.unusedVariables false

/-- All these operations (each with its slot) may be taken now, one behind the other, and none is wanted. -/
def allSkip (md : Region.Mode) (ops : Array Oper) : List (Nat × Nat) → Array Bool → Act → Bool
  | [], _, _ => true
  | (i, d) :: is, l, a =>
    (match ops[i]? with | some o => decide (o.dst = some d) && !Region.wanted o (yielded ops a.tmps) | none => false) &&
    Region.free md ops l i && (Region.ready md ops l).contains i && allSkip md ops is (l.setIfInBounds i true) (a.put (some d) undef)

theorem held_nos {P : Program} {ops : Array Oper} {Q : Exit → Act → World → Prop} {md : Region.Mode} {S : World → Prop} {w : World} (hs : Region.noSelect ops = true)
    (hQ : ∀ c (a : Act) d v w, Q (.panic c) (a.put d v) w → Q (.panic c) a w) (hS : S w) : ∀ (is : List (Nat × Nat)) (fuel : Nat) (listed : Array Bool) (a : Act), allSkip md ops is listed a = true →
    wpAnyH P md ops Q S fuel (is.foldl (fun l p => l.setIfInBounds p.1 true) listed) (is.foldl (fun a p => a.put (some p.2) undef) a) w → wpAnyH P md ops Q S (fuel + is.length) listed a w
  | [], _, _, _, _, h => h
  | (i, d) :: is, fuel, listed, a, hall, h => by
    unfold allSkip at hall
    simp only [Bool.and_eq_true] at hall
    obtain ⟨⟨⟨h1, h2⟩, h3⟩, h4⟩ := hall
    cases ho : ops[i]? with
    | none => rw [ho] at h1; cases h1
    | some o =>
      rw [ho] at h1
      simp only [Bool.and_eq_true, decide_eq_true_eq, Bool.not_eq_true'] at h1
      obtain ⟨hd, hw⟩ := h1
      have := held_nos hs hQ hS is fuel _ _ h4 h
      refine wpAnyH_take ho hs h2 h3 (fun c a w => hQ c a o.dst undef w) (.inr ⟨hw, rfl⟩) hS ?_
      rw [hd]
      exact this

/-- Operation number i, whose slot is d, yields v in every world that meets S: take it first. -/
theorem held_yes {P : Program} {ops : Array Oper} {Q : Exit → Act → World → Prop} {md : Region.Mode} {S : World → Prop} {i : Nat} (d : Nat) {oi : Oper} {v : Value} {fuel : Nat} {listed : Array Bool} {a : Act} {w : World} (hi : ops[i]? = some oi) (hd : oi.dst = some d)
    (hs : Region.noSelect ops = true) (hf : Region.free md ops listed i = true) (hr : (Region.ready md ops listed).contains i = true)
    (hQ : ∀ c (a : Act) d v w, Q (.panic c) (a.put d v) w → Q (.panic c) a w) (hw : Region.wanted oi (yielded ops a.tmps) = true) (hS : S w)
    (hv : ∀ w, S w → (execOp a.eval oi).run P w = .ok (.value v) w)
    (h : wpAnyH P md ops Q S fuel (listed.setIfInBounds i true) (a.put (some d) v) w) : wpAnyH P md ops Q S (fuel + 1) listed a w :=
  wpAnyH_take hi hs hf hr (fun c a w => hQ c a oi.dst v w) (.inl ⟨hw, hv⟩) hS (by rw [hd]; exact h)

end Go.Proofs.Ytdjpaibjelfhnaa
