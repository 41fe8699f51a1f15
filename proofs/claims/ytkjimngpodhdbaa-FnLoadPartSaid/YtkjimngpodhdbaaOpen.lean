/- A store as a map of the call's own: contracts of slices.Clone and openStore. -/
import Derived.Test.YtkjimngpodhdbaaGet
import Derived.Test.YtkjimngpodhdbaaMapF
import Derived.OwnWalk
namespace Go.Proofs.Ytkjimngpodhdbaa
open Go.RowKit Go.Maps
set_option linter.unusedVariables false

/-- An element as a value. -/
def valH (y : HV) : Value := .agg #[.int .i64 y.id, .slice y.ad y.zs.length y.cp, .int .i64 y.us]

/-- The entries of a store's map. -/
def mapOf (ys : List HV) (i : Int) : Option Value := (ys.find? fun y => decide (y.id = i)).map valH

theorem mapOf_nil : mapOf [] = fun _ => none := rfl

theorem putF_mapOf {ys : List HV} {y : HV} (h : ∀ z ∈ ys, z.id ≠ y.id) : putF (mapOf ys) y.id (valH y) = mapOf (ys ++ [y]) := by
  funext i
  unfold putF mapOf
  rw [List.find?_append]
  split
  · rename_i e; subst e
    have : ys.find? (fun z => decide (z.id = y.id)) = none := by
      rw [List.find?_eq_none]
      intro z hz
      simp [h z hz]
    rw [this]
    simp
  · rename_i e
    have e' : ¬ y.id = i := fun h => e h.symm
    cases hf : ys.find? (fun z => decide (z.id = i)) with
    | none => simp [e']
    | some z => simp

theorem mapOf_atV {ys : List HV} {i : Int} : (mapOf ys i = none ∧ atV (valsH ys) i = none) ∨ ∃ y ∈ ys, mapOf ys i = some (valH y) ∧ atV (valsH ys) i = some y.val := by
  unfold mapOf
  cases hf : ys.find? (fun y => decide (y.id = i)) with
  | none =>
    refine .inl ⟨rfl, ?_⟩
    unfold atV valsH
    rw [List.find?_map]
    have : ((fun v : Int × List Int × Int => decide (v.1 = i)) ∘ HV.val) = fun y : HV => decide (y.id = i) := rfl
    rw [this, hf]; rfl
  | some y =>
    refine .inr ⟨y, List.mem_of_find?_eq_some hf, rfl, ?_⟩
    unfold atV valsH
    rw [List.find?_map]
    have : ((fun v : Int × List Int × Int => decide (v.1 = i)) ∘ HV.val) = fun y : HV => decide (y.id = i) := rfl
    rw [this, hf]; rfl

/-- A store lies in a map of the call's own. -/
structure StoreM (w : World) (B b : Nat) (ys : List HV) : Prop where
  map : MapF w b ys.length (mapOf ys)
  blk : B ≤ b
  ins : ∀ y ∈ ys, OwnI w B y.ad y.cp y.zs

theorem StoreM.below {w w' : World} {B b : Nat} {ys : List HV} (h : StoreM w B b ys) (hb : Below w.heap.size w w') : StoreM w' B b ys :=
  ⟨h.map.below hb, h.blk, fun y hy => (h.ins y hy).below hb⟩

set_option maxHeartbeats 400000 in
theorem slClone_any (a : Option Addr) (n c : Nat) (zs : List Int) (w : World) (hr : RdI w a n zs) (hwf : WfI zs) (hn : n ≤ 1048576) :
    Calls Try.prog 46 #[.slice a n c] w (RetI w zs) := by
  have hl := Lib.hid hr.1
  have q22 : ∀ (w : World) (a : Option Addr) (n c n' c' : Nat), (binOp .eql 32 (.slice a n c) (.slice none n' c')).run Try.prog w = .ok (.bool a.isNone) w := fun w a n c n' c' => Lib.run_eql_slice_nil w _ _ a n c n' c' Try.underlying32
  cases a with
  | none =>
    by_cases hn0 : n = 0
    · subst hn0
      have hz : zs = [] := List.length_eq_zero_iff.1 hl.out
      subst hz
      go_enter Try.func46, Try.ntmps46
      go_wp2
      go_ret
      exact ⟨none, 0, rfl, ⟨(by intro z hz; cases hz), World.ownsRow_nil _ _ _ _⟩, Below.refl _ _⟩
    · obtain ⟨b, off, h, _⟩ := hr.2 0 (by omega)
      cases h
  | some ad =>
    have hcell : ∀ j u, (zs.map (Value.int .i64))[j]? = some u → (w.alloc (.cells #[] 3)).cell? (ad.add j) = some u := by
      intro j u hj
      have hjn : j < zs.length := by have := (List.getElem?_eq_some_iff.1 hj).1; simpa using this
      obtain ⟨b, off, h, hlt, hc⟩ := hr.2 j (by have := hr.1; omega)
      injection h with h
      subst h
      rw [getElem?_ints zs j hjn] at hj
      injection hj with hj
      subst hj
      rw [Addr.add_lit, World.cell?_alloc_lt w _ _ hlt]
      exact hc j (by have := hr.1; omega)
    have HC := Lib.hid hcell
    clear hcell hr
    go_enter Try.func46, Try.ntmps46
    go_wp2_with (at_builtin; refine wp_app rfl _ _ rfl rfl (OwnI.empty (Nat.le_refl _)) ad n c zs rfl hl.out HC.out hwf (by simp; omega) (by simp) ?_; intro a2 c2 w2 hO2 hG2)
    go_ret
    exact ⟨a2, c2, by simp, by simpa using hO2, ((Below.refl _ _).alloc (Nat.le_refl _) _).grown hG2 (by simp) (by intro r hr; simp [Value.ownBlock] at hr; omega)⟩

end Go.Proofs.Ytkjimngpodhdbaa
