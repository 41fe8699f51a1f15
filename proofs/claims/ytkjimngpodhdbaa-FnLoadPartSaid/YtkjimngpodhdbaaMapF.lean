/- A map keyed by int, as a function of its keys: look-up, store, what stays. -/
import Derived.Test.YtkjimngpodhdbaaBase
import Derived.Maps.OwnOps
namespace Go.Proofs.Ytkjimngpodhdbaa
open Go.RowKit Go.Maps
set_option linter.unusedVariables false

theorem keyedInt : Keyed Try.prog 3 := int_keyed Try.underlying3

theorem keyInt {i : Int} (h : (Lit.int .i64 i).wf = true) : keyOf Try.prog 3 (.int .i64 i) = some (.int .i64 i) := keyOf_int_mk Try.underlying3 h

/-- Block b is a map of at most n entries: those of f. -/
def MapF (w : World) (b n : Nat) (f : Int → Option Value) : Prop :=
  ∃ es clock, w.heap[b]? = some (.map es clock) ∧ es.size ≤ n ∧ es.toList.Pairwise (fun x y => x.key ≠ y.key) ∧
    (∀ e ∈ es.toList, ∃ i, e.key = .int .i64 i ∧ (Lit.int .i64 i).wf = true ∧ f i = some e.val) ∧ (∀ i v, f i = some v → ∃ e ∈ es.toList, e.key = .int .i64 i ∧ e.val = v)

theorem MapF.lt {w : World} {b n : Nat} {f : Int → Option Value} (h : MapF w b n f) : b < w.heap.size := by
  obtain ⟨es, clock, hb, _⟩ := h
  exact (Array.getElem?_eq_some_iff.1 hb).1

theorem MapF.made (w : World) : MapF (w.alloc (.map #[] 0)) w.heap.size 0 (fun _ => none) :=
  ⟨#[], 0, heap_alloc_new w _, Nat.le_refl _, by simp, by simp, by simp⟩

theorem MapF.kept {w w' : World} {b n : Nat} {f : Int → Option Value} {row : Option Nat} (h : MapF w b n f) (hg : w.grownBy w' row) (hne : some b ≠ row) : MapF w' b n f := by
  have hlt := h.lt
  obtain ⟨es, clock, hb, hr⟩ := h
  exact ⟨es, clock, (hg.block b hlt hne).trans hb, hr⟩

theorem MapF.alloc {w : World} {b n : Nat} {f : Int → Option Value} (h : MapF w b n f) (o : Obj) : MapF (w.alloc o) b n f := h.kept (World.grownBy_alloc w o none) (by simp)
theorem MapF.drew {w : World} {b n : Nat} {f : Int → Option Value} (h : MapF w b n f) : MapF w.drew b n f := h
theorem MapF.drewN {w : World} {b n : Nat} {f : Int → Option Value} (h : MapF w b n f) (k : Nat) : MapF (w.drewN k) b n f := h
theorem MapF.below {w w' : World} {b n : Nat} {f : Int → Option Value} (h : MapF w b n f) (hb : Below w.heap.size w w') : MapF w' b n f := by
  have hlt := h.lt
  obtain ⟨es, clock, hb0, hr⟩ := h
  exact ⟨es, clock, (hb.block b hlt).trans hb0, hr⟩

theorem MapF.keys {w : World} {es : Array MapEntry} {f : Int → Option Value} (h : ∀ e ∈ es.toList, ∃ i, e.key = .int .i64 i ∧ (Lit.int .i64 i).wf = true ∧ f i = some e.val) : ∀ e ∈ es.toList, ∃ l, keyOf Try.prog 3 e.key = some l := by
  intro e he
  obtain ⟨i, hi, hw, _⟩ := h e he
  exact ⟨_, by rw [hi]; exact keyInt hw⟩

/-- 'm[i]', with or without 'ok'. -/
theorem MapF.look {w : World} {b n : Nat} {f : Int → Option Value} {t e : TypeId} {z : Value} (h : MapF w b n f) (ht : Try.prog.underlying t = some (.map 3 e)) (hz : (zeroValue e).run Try.prog w = .ok z w) {i : Int} (hi : (Lit.int .i64 i).wf = true) (c : Bool) :
    (Instr.lookup t (.map (some b)) (.int .i64 i) c).run Try.prog w = .ok (if c then .tuple #[(f i).getD z, .bool (f i).isSome] else (f i).getD z) w := by
  obtain ⟨es, clock, hb, hs, hp, h1, h2⟩ := h
  have hk := keyInt hi
  rcases keyedInt.find w hk es.toList (MapF.keys (w := w) h1) with ⟨h3, h4⟩ | ⟨j, e0, h3, h4, h5⟩
  · have hf : f i = none := by
      cases hf : f i with
      | none => rfl
      | some v =>
        obtain ⟨x, hx, hxk, _⟩ := h2 i v hf
        exact absurd hxk (h4 x hx)
    simp [Instr.lookup, run_underlying ht, MapKept.run_getObj_map hb, keyedInt.check w _ hk, h3, hz, Result.andThen, hf]
  · obtain ⟨i', hi', _, hf⟩ := h1 e0 (List.mem_of_getElem? h4)
    rw [h5] at hi'
    injection hi' with _ hi'
    subst hi'
    simp [Instr.lookup, run_underlying ht, MapKept.run_getObj_map hb, keyedInt.check w _ hk, h3, Result.andThen, hf]

def putF (f : Int → Option Value) (i : Int) (v : Value) : Int → Option Value := fun j => if j = i then some v else f j

theorem grown_setBlock {w : World} {b : Nat} {o o' : Obj} (hb : w.heap[b]? = some o) : w.grownBy (ChangeMaps.setBlock w b o') (some b) :=
  ⟨rfl, rfl, rfl, by simp [ChangeMaps.setBlock], fun i _ hi => by
    have : b ≠ i := fun e => hi (by rw [e])
    simp only [ChangeMaps.setBlock]
    rw [Array.getElem?_setIfInBounds]
    simp [this]⟩

/-- 'm[i] = v'. -/
theorem MapF.store {w : World} {b n : Nat} {f : Int → Option Value} {t e : TypeId} (h : MapF w b n f) (ht : Try.prog.underlying t = some (.map 3 e)) (hn : n < maxLen) {i : Int} (hi : (Lit.int .i64 i).wf = true) (v : Value) :
    ∃ w', (Instr.mapUpdate t (.map (some b)) (.int .i64 i) v).run Try.prog w = .ok () w' ∧ MapF w' b (n + 1) (putF f i v) ∧ w.grownBy w' (some b) := by
  obtain ⟨es, clock, hb, hs, hp, h1, h2⟩ := h
  have hlt := (Array.getElem?_eq_some_iff.1 hb).1
  have hk := keyInt hi
  rcases keyedInt.find w hk es.toList (MapF.keys (w := w) h1) with ⟨h3, h4⟩ | ⟨j, e0, h3, h4, h5⟩
  · refine ⟨ChangeMaps.setBlock w b (.map (es.push ⟨.int .i64 i, v, clock⟩) (clock + 1)), ?_, ⟨_, _, ChangeMaps.heap_setBlock_same hb _, by simp; omega, ?_, ?_, ?_⟩, grown_setBlock hb⟩
    · simp [Instr.mapUpdate, run_underlying ht, MapKept.run_getObj_map hb, keyedInt.check w false hk, h3, MapKept.run_setObj_map _ hb, Result.andThen, ChangeMaps.setBlock]
    · rw [Array.toList_push, List.pairwise_append]
      refine ⟨hp, by simp, fun x hx y hy => ?_⟩
      simp at hy
      subst hy
      exact h4 x hx
    · intro x hx
      rw [Array.toList_push] at hx
      rcases List.mem_append.1 hx with hx | hx
      · obtain ⟨i', hi', hw, hf⟩ := h1 x hx
        refine ⟨i', hi', hw, ?_⟩
        have : i' ≠ i := fun e => h4 x hx (by rw [hi', e])
        simp [putF, this, hf]
      · simp at hx
        subst hx
        exact ⟨i, rfl, hi, by simp [putF]⟩
    · intro i' u hu
      unfold putF at hu
      rw [Array.toList_push]
      split at hu
      · rename_i e; subst e
        cases hu
        exact ⟨_, List.mem_append.2 (.inr (List.mem_singleton.2 rfl)), rfl, rfl⟩
      · obtain ⟨x, hx, hxk, hxv⟩ := h2 i' u hu
        exact ⟨x, List.mem_append.2 (.inl hx), hxk, hxv⟩
  · have hj : es[j]? = some e0 := by simpa using h4
    have hjl : j < es.toList.length := (List.getElem?_eq_some_iff.1 h4).1
    have hlist : (es.modify j (fun e' => { e' with key := .int .i64 i, val := v })).toList = es.toList.set j { e0 with key := .int .i64 i, val := v } := by rw [Array.toList_modify, ChangeMaps.modify_eq_set _ _ _ _ h4]
    have other : ∀ x ∈ es.toList.set j { e0 with key := .int .i64 i, val := v }, x = { e0 with key := .int .i64 i, val := v } ∨ (x ∈ es.toList ∧ x.key ≠ .int .i64 i) := by
      intro x hx
      obtain ⟨q, hq, ex⟩ := List.getElem_of_mem hx
      rw [List.getElem_set] at ex
      split at ex
      · exact Or.inl ex.symm
      · rename_i hne
        have hq' : q < es.toList.length := by simpa using hq
        refine Or.inr ⟨ex ▸ List.getElem_mem hq', ?_⟩
        have e0' : es.toList[j] = e0 := by rw [List.getElem?_eq_getElem hjl] at h4; exact Option.some.inj h4
        have hpw := List.pairwise_iff_getElem.1 hp
        rw [← h5, ← ex]
        have hgoal : es.toList[q].key ≠ es.toList[j].key := by
          rcases Nat.lt_or_gt_of_ne hne with hlt' | hgt
          · exact (hpw j q hjl hq' hlt').symm
          · exact hpw q j hq' hjl hgt
        rwa [e0'] at hgoal
    refine ⟨ChangeMaps.setBlock w b (.map (es.modify j (fun e' => { e' with key := .int .i64 i, val := v })) clock), ?_, ⟨_, _, ChangeMaps.heap_setBlock_same hb _, by simp; omega, ?_, ?_, ?_⟩, grown_setBlock hb⟩
    · simp [Instr.mapUpdate, run_underlying ht, MapKept.run_getObj_map hb, keyedInt.check w false hk, h3, hj, h5, keyedInt.stays w hk, MapKept.run_setObj_map _ hb, Result.andThen, ChangeMaps.setBlock]
    · rw [hlist]
      rw [List.pairwise_iff_getElem] at hp ⊢
      intro q r hq hr hqr
      have hq' : q < es.toList.length := by simpa using hq
      have hr' : r < es.toList.length := by simpa using hr
      have e0' : es.toList[j] = e0 := by rw [List.getElem?_eq_getElem hjl] at h4; exact Option.some.inj h4
      have := hp q r hq' hr' hqr
      rw [List.getElem_set, List.getElem_set]
      split <;> split
      · omega
      · rename_i e _; subst e
        rw [e0', h5] at this; exact this
      · rename_i _ e; subst e
        rw [e0', h5] at this; exact this
      · exact this
    · intro x hx
      rw [hlist] at hx
      rcases other x hx with rfl | ⟨hx, hne⟩
      · exact ⟨i, rfl, hi, by simp [putF]⟩
      · obtain ⟨i', hi', hw, hf⟩ := h1 x hx
        refine ⟨i', hi', hw, ?_⟩
        have : i' ≠ i := fun e => hne (by rw [hi', e])
        simp [putF, this, hf]
    · intro i' u hu
      unfold putF at hu
      rw [hlist]
      split at hu
      · rename_i e; subst e
        cases hu
        exact ⟨{ e0 with key := .int .i64 i', val := v }, List.mem_iff_getElem.2 ⟨j, by simpa using hjl, by simp⟩, rfl, rfl⟩
      · rename_i hne
        obtain ⟨x, hx, hxk, hxv⟩ := h2 i' u hu
        obtain ⟨q, hq, ex⟩ := List.getElem_of_mem hx
        have hqj : j ≠ q := by
          intro e; subst e
          rw [List.getElem?_eq_getElem hjl] at h4
          have e0' := Option.some.inj h4
          rw [← ex, e0', h5] at hxk
          injection hxk with _ hxk
          exact hne hxk.symm
        exact ⟨x, List.mem_iff_getElem.2 ⟨q, by simpa using hq, by rw [List.getElem_set_ne hqj]; exact ex⟩, hxk, hxv⟩

/-- 'm[i] = v' at the operation. -/
theorem wpList_storeF (w : World) {ops : Array Oper} {rest : List Oper} {o : Oper} {a : Act} {Q : Exit → Act → World → Prop} (hg : o.guard = none) (m x v : Operand) (t e : TypeId) (hop : o.op = Op.mapUpdate t m x v)
    (ht : Try.prog.underlying t = some (.map 3 e)) (b n : Nat) (f : Int → Option Value) (hm : a.eval m = .map (some b)) (hown : MapF w b n f) (hn : n < maxLen) (i : Int) (val : Value) (hx : a.eval x = .int .i64 i) (hv : a.eval v = val) (hi : (Lit.int .i64 i).wf = true)
    (hK : ∀ w', MapF w' b (n + 1) (putF f i val) → w.grownBy w' (some b) → wpList Try.prog ops Q rest (a.put o.dst undef) w') :
    wpList Try.prog ops Q (o :: rest) a w := by
  refine wpList_plain hg fun K' hK' => ?_
  obtain ⟨w', hrun, r1, r2⟩ := hown.store ht hn hi val
  unfold Oper.wp
  simp [execOp, hop, hm, hx, hv, hrun, Result.andThen]
  exact hK' _ _ (hK w' r1 r2)

/-- 'm[i] = v' at a step of a region that draws. -/
theorem step_storeF {ops : Array Oper} {o : Oper} {act : Act} {K : Act → World → Prop} {Q : Exit → Act → World → Prop} {F : Prop} (hgd : o.guard = none) (m x v : Operand) (t e : TypeId) (hop : o.op = Op.mapUpdate t m x v)
    (ht : Try.prog.underlying t = some (.map 3 e)) {W : World} (b n : Nat) (f : Int → Option Value) (hm : act.eval m = .map (some b)) (hown : MapF W b n f) (hn : n < maxLen) (i : Int) (val : Value) (hx : act.eval x = .int .i64 i) (hv : act.eval v = val) (hi : (Lit.int .i64 i).wf = true)
    (h : ∀ w', MapF w' b (n + 1) (putF f i val) → W.grownBy w' (some b) → K (act.put o.dst undef) w') :
    if Region.wanted o (yielded ops act.tmps) = true then Oper.wp Try.prog o act W K Q else F := by
  have hw : Region.wanted o (yielded ops act.tmps) = true := by simp [Region.wanted, hgd]
  rw [if_pos hw]
  obtain ⟨w', hrun, r1, r2⟩ := hown.store ht hn hi val
  unfold Oper.wp
  simp [execOp, hop, hm, hx, hv, hrun, Result.andThen]
  exact h w' r1 r2

end Go.Proofs.Ytkjimngpodhdbaa
